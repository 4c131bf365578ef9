/- More fuel tells the same. No condition. -/
import Derived.Test.YtoghhgceanlkkaaAbWp
set_option linter.unusedVariables false
set_option linter.unusedSimpArgs false
namespace Go.Ab
open Go

def CLe (C C' : Caller) : Prop := ∀ f args r, C f args = some r → C' f args = some r
theorem run_le {C C' : Caller} (h : CLe C C') : ∀ (p : Prog) {σ σ' : St}, p.run C σ = some σ' → p.run C' σ = some σ' ∧ p.logs C' σ = p.logs C σ
  | .ret, σ, σ', hr => ⟨hr, rfl⟩
  | .fail, σ, σ', hr => by simp [Prog.run] at hr
  | .getS i k, σ, σ', hr => by
    have ih := run_le h (k (σ.getS i)) hr
    exact ⟨ih.1, by simp only [Prog.logs]; rw [ih.2]⟩
  | .putS i v k, σ, σ', hr => by
    have ih := run_le h k hr
    exact ⟨ih.1, by simp only [Prog.logs]; rw [ih.2]⟩
  | .getT t k, σ, σ', hr => by
    have ih := run_le h (k (σ.getT t)) hr
    exact ⟨ih.1, by simp only [Prog.logs]; rw [ih.2]⟩
  | .putT t e k, σ, σ', hr => by
    have ih := run_le h k hr
    exact ⟨ih.1, by simp only [Prog.logs]; rw [ih.2]⟩
  | .need p k, σ, σ', hr => by
    obtain ⟨hp, hr⟩ := need_run hr
    have ih := run_le h k hr
    exact ⟨by simp only [Prog.run, if_pos hp]; exact ih.1, by simp only [Prog.logs]; rw [ih.2]⟩
  | .elem t xs i k, σ, σ', hr => by
    obtain ⟨x, hx, hr⟩ := elem_run hr
    have ih := run_le h (k x) hr
    exact ⟨by simp only [Prog.run, hx]; exact ih.1, by simp only [Prog.logs, hx]; rw [ih.2]⟩
  | .br b x y, σ, σ', hr => by
    cases b with
    | true => exact run_le h x hr
    | false => exact run_le h y hr
  | .call f args k, σ, σ', hr => by
    simp only [Prog.run] at hr
    split at hr
    · rename_i r os hc
      have ih := run_le h (k r os) hr
      have hc' := h _ _ _ hc
      exact ⟨by simp only [Prog.run, hc']; exact ih.1, by simp only [Prog.logs, hc, hc']; exact ih.2⟩
    · cases hr
theorem runOps_le {C C' : Caller} (h : CLe C C') {E : Ev} {ops : Array Oper} : ∀ (l : List Oper) {σ σ' : St}, runOps E C ops l σ = some σ' → runOps E C' ops l σ = some σ'
  | [], σ, σ', hr => hr
  | o :: r, σ, σ', hr => by
    unfold runOps at hr ⊢
    split at hr
    · rename_i σ1 h1
      rw [(run_le h _ h1).1]
      exact runOps_le h r hr
    · cases hr
theorem runDraw_le {C C' : Caller} (h : CLe C C') {E : Ev} {ops : Array Oper} : ∀ (l : List Oper) {σ : St} {r : St × List (List Loc × List Loc)}, runDraw E C ops l σ = some r → runDraw E C' ops l σ = some r
  | [], σ, r, hr => hr
  | o :: l, σ, r, hr => by
    unfold runDraw at hr ⊢
    split at hr
    · rename_i σ1 h1
      have ih := run_le h _ h1
      rw [ih.1]
      split at hr
      · rename_i σ2 ls h2
        dsimp only
        rw [runDraw_le h l h2, ih.2]
        exact hr
      · cases hr
    · cases hr
theorem regionEv_le {C C' : Caller} (h : CLe C C') {E : Ev} {K : Keep} {id : Nat} {ops : Array Oper} {draw : Bool} {s s' : Sl} (hr : regionEv E C K id ops draw s = some s') : regionEv E C' K id ops draw s = some s' := by
  unfold regionEv at hr ⊢
  split at hr
  · split at hr
    · rename_i σ ls h1
      (try dsimp only)
      rw [runDraw_le h _ h1]
      exact hr
    · cases hr
  · split at hr
    · rename_i σ h1
      (try dsimp only)
      rw [runOps_le h _ h1]
      exact hr
    · cases hr
def JLe (J J' : (Code → Sl → Option Out) × (Code → Code → Sl → Option Out)) : Prop := (∀ c s o, J.1 c s = some o → J'.1 c s = some o) ∧ ∀ c r s o, J.2 c r s = some o → J'.2 c r s = some o
theorem evS_le {C C' : Caller} (h : CLe C C') {E : Ev} {K : Keep} {J J' : (Code → Sl → Option Out) × (Code → Code → Sl → Option Out)} (hJ : JLe J J') : ∀ (c : Code) {s : Sl} {o : Out}, evS E C K J.1 J.2 c s = some o → evS E C' K J'.1 J'.2 c s = some o
  | .skip, s, o, hr => hr
  | .region id ops draw, s, o, hr => by
    unfold evS at hr ⊢
    split at hr
    · rename_i s' h1
      rw [regionEv_le h h1]
      exact hr
    · cases hr
  | .seq a b, s, o, hr => by
    unfold evS at hr ⊢
    split at hr
    · rename_i s' h1
      rw [evS_le h hJ a h1]
      exact evS_le h hJ b hr
    · rename_i hn
      rw [evS_le h hJ a hr]
      cases o with
      | norm s' => exact (hn _ hr).elim
      | _ => rfl
  | .cond t x y, s, o, hr => by
    cases t with
    | tmp t =>
      unfold evS at hr ⊢
      split at hr
      · rename_i b hb
        cases b with
        | true => exact evS_le h hJ x hr
        | false => exact evS_le h hJ y hr
      · cases hr
    | _ => simp [evS] at hr
  | .block id c, s, o, hr => by
    unfold evS at hr ⊢
    split at hr
    · rename_i i s' h1
      rw [evS_le h hJ c h1]
      exact hr
    · rename_i hn
      rw [evS_le h hJ c hr]
      cases o with
      | exit i s' => exact (hn _ _ hr).elim
      | _ => rfl
  | .loop c, s, o, hr => by
    unfold evS at hr ⊢
    split at hr
    · rename_i s' h1
      rw [evS_le h hJ c h1]
      exact hJ.1 _ _ _ hr
    · rename_i hn
      rw [evS_le h hJ c hr]
      cases o with
      | norm s' => exact (hn _ hr).elim
      | _ => rfl
  | .scope c, s, o, hr => by
    unfold evS at hr ⊢
    split at hr
    · rename_i l s' h1
      rw [evS_le h hJ c h1]
      dsimp only
      split at hr
      · rename_i rest hl
        (try rw [hl])
        exact hJ.2 _ _ _ _ hr
      · rename_i hl
        (try rw [hl])
        exact hr
    · rename_i hn
      rw [evS_le h hJ c hr]
      cases o with
      | goto l s' => exact (hn _ _ hr).elim
      | _ => rfl
  | .exit id, s, o, hr => hr
  | .label _, s, o, hr => hr
  | .goto l, s, o, hr => hr
  | .ret, s, o, hr => hr
  | .rangeFunc _ _ _ _, s, o, hr => by simp [evS] at hr
  | .refuse _, s, o, hr => by simp [evS] at hr
theorem evJ_le {C C' : Caller} (h : CLe C C') {E : Ev} {K : Keep} : ∀ n, JLe (evJ E C K n) (evJ E C' K (n + 1))
  | 0 => ⟨fun c s o hr => by simp [evJ] at hr, fun c r s o hr => by simp [evJ] at hr⟩
  | n + 1 => by
    have ih := evJ_le h (E := E) (K := K) n
    refine ⟨fun c s o hr => ?_, fun c r s o hr => ?_⟩
    · rw [evJ] at hr ⊢
      dsimp only at hr ⊢
      split at hr
      · rename_i s' h1
        rw [evS_le h ih c h1]
        exact ih.1 _ _ _ hr
      · rename_i hn
        rw [evS_le h ih c hr]
        cases o with
        | norm s' => exact (hn _ hr).elim
        | _ => rfl
    · rw [evJ] at hr ⊢
      dsimp only at hr ⊢
      split at hr
      · rename_i l s' h1
        rw [evS_le h ih r h1]
        dsimp only
        split at hr
        · rename_i rest hl
          (try rw [hl])
          exact ih.2 _ _ _ _ hr
        · rename_i hl
          (try rw [hl])
          exact hr
      · rename_i hn
        rw [evS_le h ih r hr]
        cases o with
        | goto l s' => exact (hn _ _ hr).elim
        | _ => rfl
theorem finF_le {C C' : Caller} (h : CLe C C') {F : Fx} {fn : FnD} {args : List IV} {s : Sl} {r : IV × List IV} (hr : finF F C fn args s = some r) : finF F C' fn args s = some r := by
  unfold finF at hr ⊢
  dsimp only at hr ⊢
  split at hr
  · rename_i σ1 h1
    rw [(run_le h _ h1).1]
    exact hr
  · cases hr
theorem evFn_le {C C' : Caller} (h : CLe C C') {F : Fx} {fn : FnD} {args : List IV} {n : Nat} {r : IV × List IV} (hr : evFn F C n fn args = some r) : evFn F C' (n + 1) fn args = some r := by
  unfold evFn at hr ⊢
  split at hr
  · rename_i hk
    rw [if_pos hk]
    split at hr
    · rename_i s hs
      rw [evS_le h (evJ_le h n) _ hs]
      exact finF_le h hr
    · rename_i s hs
      rw [evS_le h (evJ_le h n) _ hs]
      exact finF_le h hr
    · cases hr
  · cases hr
theorem evF_le {F : Fx} : ∀ n, CLe (evF F n) (evF F (n + 1))
  | 0 => fun f args r hr => by simp [evF] at hr
  | n + 1 => fun f args r hr => by
    have ih := evF_le (F := F) n
    rw [evF] at hr ⊢
    dsimp only at hr ⊢
    split at hr
    · exact hr
    · split at hr
      · exact evFn_le ih hr
      · cases hr
theorem evF_more {F : Fx} {f : FuncId} {args : List IV} {r : IV × List IV} {n : Nat} (h : evF F n f args = some r) : ∀ m, evF F (n + m) f args = some r
  | 0 => h
  | m + 1 => evF_le (n + m) _ _ _ (evF_more h m)
theorem evF_from {F : Fx} {f : FuncId} {args : List IV} {r : IV × List IV} {n : Nat} (h : evF F n f args = some r) {m : Nat} (hm : n ≤ m) : evF F m f args = some r := by
  have := evF_more h (m - n)
  rwa [show n + (m - n) = m by omega] at this
end Go.Ab
