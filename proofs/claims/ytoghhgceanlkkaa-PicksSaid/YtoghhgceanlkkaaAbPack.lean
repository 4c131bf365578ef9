/- The state of a run between regions: laid out into tokens, and gathered again. No condition. -/
import Derived.Test.YtoghhgceanlkkaaAbIv
set_option linter.unusedVariables false
set_option linter.unusedSimpArgs false
namespace Go.Ab
open Go

abbrev Sl := List (Nat × IV)
def unpackS (s : Sl) : St := let r := unpackL 0 (s.map (·.2)) 0; { env := (s.map (·.1)).zip r.1, ents := r.2.1 }

structure SRel (X : Cx) (H : Fz) (s : Sl) (a : Act) (w : World) : Prop where
  le : X.H0.le H
  sub : H.sub w
  fr : Framed X.w0 X.own0 w
  defers : a.defers = []
  size : a.tmps.size = X.N
  lk : ∀ i v, (i, v) ∈ X.lk → a.tmps.getD i undef = v
  rep : ∃ bs, IV.RepL H w (s.map (·.2)) (s.map fun p => a.tmps.getD p.1 undef) bs ∧ bs.Nodup ∧ ∀ b ∈ bs, H b = none ∧ X.Mine b
  fz : ∀ k, ¬ X.Mine k → H k = X.H0 k

section
variable {X : Cx} {H : Fz} {w : World} {a : Act}

theorem assoc_mem {α β : Type} [DecidableEq α] {z : β} : ∀ {l : List (α × β)} {k : α} {v : β}, (l.map (·.1)).Nodup → (k, v) ∈ l → assoc z l k = v
  | [], k, v, _, h => by simp at h
  | (k', v') :: r, k, v, hn, h => by
    simp only [List.map_cons, List.nodup_cons] at hn
    unfold assoc
    rcases List.mem_cons.1 h with h | h
    · cases h; simp
    · have hne : k' ≠ k := fun e => hn.1 (by subst e; exact List.mem_map.2 ⟨_, h, rfl⟩)
      rw [if_neg hne]
      exact assoc_mem hn.2 h
theorem assoc_not {α β : Type} [DecidableEq α] {z : β} : ∀ {l : List (α × β)} {k : α}, k ∉ l.map (·.1) → assoc z l k = z
  | [], k, _ => rfl
  | (k', v') :: r, k, h => by
    simp only [List.map_cons, List.mem_cons, not_or] at h
    unfold assoc
    rw [if_neg (fun e => h.1 e.symm)]
    exact assoc_not h.2
theorem assoc_cases {α β : Type} [DecidableEq α] {z : β} : ∀ (l : List (α × β)) (k : α), assoc z l k = z ∨ (k, assoc z l k) ∈ l
  | [], k => .inl rfl
  | (k', v') :: r, k => by
    unfold assoc
    by_cases h : k' = k
    · subst h; simp
    · rw [if_neg h]
      rcases assoc_cases r k with h1 | h1
      · exact .inl h1
      · exact .inr (List.mem_cons_of_mem _ h1)
/-- A slot's value in a state that was laid out. -/
theorem zip_rep {H : Fz} {L : Vl} (f : Nat → Value) : ∀ {is : List Nat} {vs : List Val}, Val.RepL H L vs (is.map f) → ∀ i, (assoc Val.dead (is.zip vs) i).Rep H L (f i)
  | [], vs, h, i => by simp [assoc, Val.Rep]
  | j :: is, vs, h, i => by
    cases vs with
    | nil => simp [assoc, Val.Rep]
    | cons v vs =>
      simp only [List.map_cons] at h
      unfold Val.RepL at h
      obtain ⟨u, r, he, h1, h2⟩ := h
      simp only [List.cons.injEq] at he
      obtain ⟨rfl, rfl⟩ := he
      simp only [List.zip_cons_cons]
      unfold assoc
      by_cases hj : j = i
      · subst hj; rw [if_pos rfl]; exact h1
      · rw [if_neg hj]; exact zip_rep f h2 i
theorem unpackS_rel {s : Sl} (r : SRel X H s a w) : ∃ L, Rel X H L (unpackS s) a w ∧ ∀ u, L u ≠ none → u.1 = 0 := by
  obtain ⟨bs, h1, h2, h3⟩ := r.rep
  obtain ⟨L, g1, g2⟩ := unpackL_rep (X := X) 0 (s.map (·.2)) 0 (L0 := fun _ => none) h1 h2 h3 (fun _ _ _ => rfl)
  have hkeys := (unpackL_key 0 (s.map (·.2)) 0).2
  refine ⟨L, ⟨r.le, r.sub, r.fr, r.defers, r.size, fun i => ?_, fun u => ?_, fun u u' b hne hb => ?_, r.lk, r.fz⟩, fun u hu => ?_⟩
  · have := zip_rep (H := H) (L := L) (fun i => a.tmps.getD i undef) (is := s.map (·.1)) (vs := (unpackL 0 (s.map (·.2)) 0).1) (by rw [List.map_map]; exact g2) i
    exact this
  · show EntInv X H L w u (assoc .fresh (unpackL 0 (s.map (·.2)) 0).2.1 u)
    by_cases hu : u ∈ (unpackL 0 (s.map (·.2)) 0).2.1.map (·.1)
    · obtain ⟨⟨u', e⟩, hm, rfl⟩ := List.mem_map.1 hu
      rw [assoc_mem g1.keys hm]
      exact g1.inv _ _ hm
    · rw [assoc_not hu]
      rcases g1.key u with h | h
      · exact h
      · exact (hu h).elim
  · intro hb'
    have e1 : (unpackS s).getT u = assoc .fresh (unpackL 0 (s.map (·.2)) 0).2.1 u := rfl
    have e2 : (unpackS s).getT u' = assoc .fresh (unpackL 0 (s.map (·.2)) 0).2.1 u' := rfl
    rcases assoc_cases (z := Ent.fresh) (unpackL 0 (s.map (·.2)) 0).2.1 u with h4 | h4
    · rw [e1, h4] at hb; simp [mutBlk] at hb
    · rcases assoc_cases (z := Ent.fresh) (unpackL 0 (s.map (·.2)) 0).2.1 u' with h5 | h5
      · rw [e2, h5] at hb'; simp [mutBlk] at hb'
      · exact g1.apart _ _ _ _ b h4 h5 hne (e1 ▸ hb) (e2 ▸ hb')
  · rcases g1.key u with h | h
    · exact absurd h hu
    · exact (hkeys u h).1

/-! ### Gathered again -/
mutual
/-- A cell of a variable. -/
def pack0 (σ : St) : Val → IV
  | .dead => .dead
  | .und => .dead
  | .eptr _ _ _ _ => .dead
  | .d x => .d x
  | .dptr xs => .dptr xs
  | .ref t l => match σ.getT t with
    | .row true nl e sz xs => .own nl e sz (takeL l xs)
    | .row false nl _ sz xs => .d (.sl sz nl (takeL l xs) (dropL l xs))
    | _ => .dead
  | .ptr t off => match σ.getT t with
    | .dbox ty cells => .dbox ty off cells
    | _ => .dead
  | .fn f caps => .fn f (pack0L σ caps)
  | .agg cs => .agg (pack0L σ cs)
  | .tup vs => .tup (pack0L σ vs)
def pack0L (σ : St) : List Val → List IV
  | [] => []
  | v :: vs => pack0 σ v :: pack0L σ vs
end
mutual
def packV (σ : St) : Val → IV
  | .dead => .dead
  | .und => .dead
  | .eptr _ _ _ _ => .dead
  | .d x => .d x
  | .dptr xs => .dptr xs
  | .ref t l => match σ.getT t with
    | .row true nl e sz xs => .own nl e sz (takeL l xs)
    | .row false nl _ sz xs => .d (.sl sz nl (takeL l xs) (dropL l xs))
    | _ => .dead
  | .ptr t off => match σ.getT t with
    | .box ty cells => .ptr ty off (pack0L σ cells)
    | .dbox ty cells => .dbox ty off cells
    | _ => .dead
  | .fn f caps => .fn f (packL σ caps)
  | .agg cs => .agg (packL σ cs)
  | .tup vs => .tup (packL σ vs)
def packL (σ : St) : List Val → List IV
  | [] => []
  | v :: vs => packV σ v :: packL σ vs
end
mutual
/-- The tokens that are gathered. -/
def toks0 (σ : St) : Val → List Tok
  | .ref t _ => match σ.getT t with
    | .row true _ _ _ _ => [t]
    | _ => []
  | .ptr t _ => match σ.getT t with
    | .dbox _ _ => [t]
    | _ => []
  | .fn _ caps => toks0L σ caps
  | .agg cs => toks0L σ cs
  | .tup vs => toks0L σ vs
  | _ => []
def toks0L (σ : St) : List Val → List Tok
  | [] => []
  | v :: vs => toks0 σ v ++ toks0L σ vs
end
mutual
def toksV (σ : St) : Val → List Tok
  | .ref t _ => match σ.getT t with
    | .row true _ _ _ _ => [t]
    | _ => []
  | .ptr t _ => match σ.getT t with
    | .box _ cells => t :: toks0L σ cells
    | .dbox _ _ => [t]
    | _ => []
  | .fn _ caps => toksL σ caps
  | .agg cs => toksL σ cs
  | .tup vs => toksL σ vs
  | _ => []
def toksL (σ : St) : List Val → List Tok
  | [] => []
  | v :: vs => toksV σ v ++ toksL σ vs
end
end

section
variable {X : Cx} {H : Fz} {L : Vl} {σ : St} {a : Act} {w : World}

/-- The blocks behind tokens. -/
def blks (σ : St) (L : Vl) (ts : List Tok) : List Nat := ts.filterMap fun t => mutBlk (σ.getT t) (L t)
theorem blks_append (ts us : List Tok) : blks σ L (ts ++ us) = blks σ L ts ++ blks σ L us := by simp [blks]
theorem pack_ref (r : Rel X H L σ a w) {t : Tok} {l : Option Nat} {v : Value} (hv : (Val.ref t l).Rep H L v) :
    IV.Rep H w (match σ.getT t with
      | .row true nl e sz xs => .own nl e sz (takeL l xs)
      | .row false nl _ sz xs => .d (.sl sz nl (takeL l xs) (dropL l xs))
      | _ => .dead) v (blks σ L (match σ.getT t with
      | .row true _ _ _ _ => [t]
      | _ => [])) := by
  have he := r.ents t
  cases ht : σ.getT t with
  | row m nl e sz xs =>
    rw [ht] at he
    cases m with
    | true =>
      obtain ⟨cells, h1, h2, h3, h4, h5, h6⟩ := ref_val he hv
      obtain ⟨v0, cells0, p1, _⟩ := he
      have hb := h6 v0 p1
      unfold IV.Rep
      refine ⟨cells, h1, h2, h3, ⟨h4, fun e => ?_⟩, ?_⟩
      · cases nl with
        | true => rfl
        | false => exact (h5 rfl e).elim
      · simp only [blks, List.filterMap_cons, List.filterMap_nil, ht, p1]
        rw [hb]
        cases v0 with
        | slice A n c => cases A <;> rfl
        | _ => rfl
    | false =>
      unfold IV.Rep
      exact ⟨frozen_rep he hv (ref_le he hv), by simp [blks]⟩
  | fresh => unfold IV.Rep; simp [blks]
  | gone => unfold IV.Rep; simp [blks]
  | box ty cells => unfold IV.Rep; simp [blks]
  | dbox ty cells => unfold IV.Rep; simp [blks]
theorem pack_dbox (r : Rel X H L σ a w) {t : Tok} {off : Nat} {v : Value} (hv : (Val.ptr t off).Rep H L v) {ty : TypeId} {cells : List D} (ht : σ.getT t = .dbox ty cells) : IV.Rep H w (.dbox ty off cells) v (blks σ L [t]) := by
  have he := r.ents t
  rw [ht] at he
  obtain ⟨b, cur, h1, h2, h3, h4, _⟩ := he
  unfold Val.Rep at hv
  obtain ⟨b', k1, rfl⟩ := hv
  rw [h1] at k1
  simp only [Option.some.injEq, Value.pointer.injEq, Addr.mk.injEq, and_true] at k1
  subst k1
  unfold IV.Rep
  exact ⟨b, cur, rfl, h2, h3, h4, by simp [blks, ht, h1, mutBlk]⟩
mutual
theorem pack0_rep (r : Rel X H L σ a w) : ∀ (x : Val) {v : Value}, x.Rep H L v → IV.Rep H w (pack0 σ x) v (blks σ L (toks0 σ x))
  | .dead, v, _ => by unfold pack0 toks0 IV.Rep; simp [blks]
  | .und, v, _ => by unfold pack0 toks0 IV.Rep; simp [blks]
  | .eptr _ _ _ _, v, _ => by unfold pack0 toks0 IV.Rep; simp [blks]
  | .d x, v, h => by unfold Val.Rep at h; unfold pack0 toks0 IV.Rep; exact ⟨h, by simp [blks]⟩
  | .dptr xs, v, h => by unfold Val.Rep at h; unfold pack0 toks0 IV.Rep; exact ⟨h, by simp [blks]⟩
  | .ref t l, v, h => by unfold pack0 toks0; exact pack_ref r h
  | .ptr t off, v, h => by
    unfold pack0 toks0
    cases ht : σ.getT t with
    | dbox ty cells => exact pack_dbox r h ht
    | _ => unfold IV.Rep; simp [blks]
  | .fn f caps, v, h => by
    unfold Val.Rep at h
    obtain ⟨arr, h1, h2⟩ := h
    unfold pack0 toks0 IV.Rep
    exact ⟨arr, h1, pack0L_rep r caps h2⟩
  | .agg cs, v, h => by
    unfold Val.Rep at h
    obtain ⟨arr, h1, h2, h3⟩ := h
    unfold pack0 toks0 IV.Rep
    exact ⟨arr, h1, pack0L_rep r cs h2, Val.RepL.one h2 h3⟩
  | .tup vs, v, h => by
    unfold Val.Rep at h
    obtain ⟨arr, h1, h2⟩ := h
    unfold pack0 toks0 IV.Rep
    exact ⟨arr, h1, pack0L_rep r vs h2⟩
theorem pack0L_rep (r : Rel X H L σ a w) : ∀ (xs : List Val) {vs : List Value}, Val.RepL H L xs vs → IV.RepL H w (pack0L σ xs) vs (blks σ L (toks0L σ xs))
  | [], vs, h => by unfold Val.RepL at h; subst h; unfold pack0L toks0L IV.RepL; simp [blks]
  | x :: xs, vs, h => by
    unfold Val.RepL at h
    obtain ⟨v, r', rfl, h1, h2⟩ := h
    unfold pack0L toks0L IV.RepL
    exact ⟨v, r', _, _, rfl, blks_append _ _, pack0_rep r x h1, pack0L_rep r xs h2⟩
end
mutual
theorem packV_rep (r : Rel X H L σ a w) : ∀ (x : Val) {v : Value}, x.Rep H L v → IV.Rep H w (packV σ x) v (blks σ L (toksV σ x))
  | .dead, v, _ => by unfold packV toksV IV.Rep; simp [blks]
  | .und, v, _ => by unfold packV toksV IV.Rep; simp [blks]
  | .eptr _ _ _ _, v, _ => by unfold packV toksV IV.Rep; simp [blks]
  | .d x, v, h => by unfold Val.Rep at h; unfold packV toksV IV.Rep; exact ⟨h, by simp [blks]⟩
  | .dptr xs, v, h => by unfold Val.Rep at h; unfold packV toksV IV.Rep; exact ⟨h, by simp [blks]⟩
  | .ref t l, v, h => by unfold packV toksV; exact pack_ref r h
  | .ptr t off, v, h => by
    unfold packV toksV
    cases ht : σ.getT t with
    | dbox ty cells => exact pack_dbox r h ht
    | box ty cells =>
      have he := r.ents t
      rw [ht] at he
      obtain ⟨b, cur, h1, h2, h3, h4, _⟩ := he
      unfold Val.Rep at h
      obtain ⟨b', k1, rfl⟩ := h
      rw [h1] at k1
      simp only [Option.some.injEq, Value.pointer.injEq, Addr.mk.injEq, and_true] at k1
      subst k1
      unfold IV.Rep
      refine ⟨b, cur, _, rfl, h2, pack0L_rep r cells h3, Val.RepL.one h3 h4, ?_⟩
      simp [blks, ht, h1, mutBlk]
    | _ => unfold IV.Rep; simp [blks]
  | .fn f caps, v, h => by
    unfold Val.Rep at h
    obtain ⟨arr, h1, h2⟩ := h
    unfold packV toksV IV.Rep
    exact ⟨arr, h1, packL_rep r caps h2⟩
  | .agg cs, v, h => by
    unfold Val.Rep at h
    obtain ⟨arr, h1, h2, h3⟩ := h
    unfold packV toksV IV.Rep
    exact ⟨arr, h1, packL_rep r cs h2, Val.RepL.one h2 h3⟩
  | .tup vs, v, h => by
    unfold Val.Rep at h
    obtain ⟨arr, h1, h2⟩ := h
    unfold packV toksV IV.Rep
    exact ⟨arr, h1, packL_rep r vs h2⟩
theorem packL_rep (r : Rel X H L σ a w) : ∀ (xs : List Val) {vs : List Value}, Val.RepL H L xs vs → IV.RepL H w (packL σ xs) vs (blks σ L (toksL σ xs))
  | [], vs, h => by unfold Val.RepL at h; subst h; unfold packL toksL IV.RepL; simp [blks]
  | x :: xs, vs, h => by
    unfold Val.RepL at h
    obtain ⟨v, r', rfl, h1, h2⟩ := h
    unfold packL toksL IV.RepL
    exact ⟨v, r', _, _, rfl, blks_append _ _, packV_rep r x h1, packL_rep r xs h2⟩
end
/-- Tokens that are told apart are blocks apart. -/
theorem blks_ok (r : Rel X H L σ a w) : ∀ {ts : List Tok}, ts.Nodup → (blks σ L ts).Nodup ∧ ∀ b ∈ blks σ L ts, H b = none ∧ X.Mine b
  | [], _ => by simp [blks]
  | t :: ts, h => by
    simp only [List.nodup_cons] at h
    have ih := blks_ok r h.2
    unfold blks at *
    simp only [List.filterMap_cons]
    cases hb : mutBlk (σ.getT t) (L t) with
    | none => exact ih
    | some b =>
      simp only [List.nodup_cons]
      refine ⟨⟨fun hm => ?_, ih.1⟩, fun b' hb' => ?_⟩
      · obtain ⟨t', ht', hb'⟩ := List.mem_filterMap.1 hm
        exact r.apart t t' b (fun e => h.1 (e ▸ ht')) hb hb'
      · rcases List.mem_cons.1 hb' with rfl | hb'
        · exact ((r.ents t).lt hb).2
        · exact ih.2 b' hb'

/-- Rows that are held twice are never written again. -/
def freezeT (σ : St) : List Tok → St
  | [] => σ
  | t :: ts => match σ.getT t with
    | .row true nl e sz xs => freezeT (σ.putT t (.row false nl e sz xs)) ts
    | _ => freezeT σ ts
theorem freezeT_rel : ∀ (ts : List Tok) {σ : St} {H : Fz}, Rel X H L σ a w → ∃ H', H.le H' ∧ Rel X H' L (freezeT σ ts) a w
  | [], σ, H, r => ⟨H, Fz.le_refl H, r⟩
  | t :: ts, σ, H, r => by
    unfold freezeT
    split
    · rename_i nl e sz xs ht
      obtain ⟨H1, h1, h2⟩ := r.freeze ht
      obtain ⟨H2, h3, h4⟩ := freezeT_rel ts h2
      exact ⟨H2, Fz.le_trans h1 h3, h4⟩
    · exact freezeT_rel ts r
def dups {α : Type} [DecidableEq α] : List α → List α
  | [] => []
  | x :: xs => if x ∈ xs then x :: dups xs else dups xs
def cutT : List Val → List Tok
  | [] => []
  | .ref t (some _) :: r => t :: cutT r
  | _ :: r => cutT r
/-- The slots that are kept, gathered; where 1000001 is among them, rows that were cut short are never written again (and what lies behind the cut is known). -/
def gather (σ0 : St) (K : List Nat) : Option Sl :=
  let σ := freezeT σ0 (if 1000001 ∈ K then cutT (K.map σ0.getS) else [])
  let σ1 := freezeT σ (dups (toksL σ (K.map σ.getS)))
  if (toksL σ1 (K.map σ1.getS)).Nodup then some (K.zip (packL σ1 (K.map σ1.getS))) else none
theorem repL_slots {H : Fz} (r : Rel X H L σ a w) : ∀ (K : List Nat), Val.RepL H L (K.map σ.getS) (K.map fun i => a.tmps.getD i undef)
  | [] => by simp [Val.RepL]
  | i :: K => by
    simp only [List.map_cons]
    unfold Val.RepL
    exact ⟨_, _, rfl, r.env i, repL_slots r K⟩
theorem packL_len (σ : St) : ∀ xs : List Val, (packL σ xs).length = xs.length
  | [] => rfl
  | x :: xs => by unfold packL; simp [packL_len σ xs]
theorem gather_rel {σ0 : St} (r0 : Rel X H L σ0 a w) {K : List Nat} {s : Sl} (h : gather σ0 K = some s) : ∃ H', H.le H' ∧ SRel X H' s a w := by
  unfold gather at h
  dsimp only at h
  obtain ⟨H0, h0, r⟩ := freezeT_rel (if 1000001 ∈ K then cutT (K.map σ0.getS) else []) r0
  generalize freezeT σ0 (if 1000001 ∈ K then cutT (K.map σ0.getS) else []) = σ at h r
  suffices hs : ∃ H', H0.le H' ∧ SRel X H' s a w by
    obtain ⟨H', h1, h2⟩ := hs
    exact ⟨H', Fz.le_trans h0 h1, h2⟩
  split at h
  · rename_i hn
    obtain ⟨H', h1, h2⟩ := freezeT_rel (dups (toksL σ (K.map σ.getS))) r
    simp only [Option.some.injEq] at h
    subst h
    have hb := blks_ok h2 hn
    refine ⟨H', h1, h2.le, h2.sub, h2.fr, h2.defers, h2.size, h2.lk, ⟨_, ?_, hb.1, hb.2⟩, h2.fz⟩
    have hp := packL_rep h2 _ (repL_slots h2 K)
    have hl : K.length = (packL (freezeT σ (dups (toksL σ (K.map σ.getS)))) (K.map (freezeT σ (dups (toksL σ (K.map σ.getS)))).getS)).length := by rw [packL_len, List.length_map]
    rw [List.map_snd_zip (by omega)]
    have e : (K.zip (packL (freezeT σ (dups (toksL σ (K.map σ.getS)))) (K.map (freezeT σ (dups (toksL σ (K.map σ.getS)))).getS))).map (fun p => a.tmps.getD p.1 undef) = K.map fun i => a.tmps.getD i undef := by
      have : (fun (p : Nat × IV) => a.tmps.getD p.1 undef) = (fun i => a.tmps.getD i undef) ∘ Prod.fst := rfl
      rw [this, ← List.map_map, List.map_fst_zip (by omega)]
    rw [e]
    exact hp
  · cases h
end
end Go.Ab
