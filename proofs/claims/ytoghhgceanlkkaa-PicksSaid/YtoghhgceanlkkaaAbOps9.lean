/- The operations, one by one: what the evaluator tells is what the machine does. Ninth part: cuts, structs that are built, len, min, max, function values. No condition. -/
import Derived.Test.YtoghhgceanlkkaaAbOps8
set_option linter.unusedVariables false
set_option linter.unusedSimpArgs false
namespace Go.Ab
open Go

section
variable {X : Cx} {E : Ev} {C : Caller}

def optP (E : Ev) (x : Option Operand) (k : Option Int → Prog) : Prog :=
  match x with
  | none => k none
  | some y => opnd E.T E.G 0 y fun v => match v with
    | .d (.int _ n) => k (some n)
    | _ => .fail
/-- A bound as the machine has it. -/
def OptIs (v : Option Value) (n : Option Int) : Prop := (v = none ∧ n = none) ∨ ∃ k z, v = some (.int k z) ∧ n = some z
theorem optP_run (k : Cxk X E) {H : Fz} {L : Vl} {σ σ' : St} {a : Act} {w : World} (r : Rel X H L σ a w) {x : Option Operand} {K : Option Int → Prog} (h : (optP E x K).run C σ = some σ') : ∃ n, (K n).run C σ = some σ' ∧ OptIs (x.map a.eval) n := by
  cases x with
  | none => exact ⟨none, h, .inl ⟨rfl, rfl⟩⟩
  | some y =>
    obtain ⟨v, h1, h2⟩ := opnd_run k r h
    split at h1
    · rename_i ki n
      exact ⟨some n, h1, .inr ⟨ki, n, by simp [repD_int h2], rfl⟩⟩
    · exact (fail_run h1).elim
/-- What is asked of a cut's bounds, of a slice of which so many cells are known. -/
def cutNeeds (lo hi mx : Option Int) (len cap : Nat) : List Bool :=
  (match lo with | some l => [decide (0 ≤ l), decide (l ≤ hi.getD len)] | none => match hi with | some h => [decide (0 ≤ h)] | none => []) ++
  (match hi with | some h => [decide (h ≤ mx.getD cap)] | none => []) ++
  (match mx with | some m => [decide (m ≤ cap), hi.isSome] | none => [])
theorem needs_run {ps : List Bool} {K : Prog} {σ σ' : St} (h : (needs ps K).run C σ = some σ') : (∀ p ∈ ps, p = true) ∧ K.run C σ = some σ' := by
  induction ps with
  | nil => exact ⟨by simp, h⟩
  | cons p ps ih =>
    obtain ⟨h1, h2⟩ := need_run h
    obtain ⟨h3, h4⟩ := ih h2
    refine ⟨fun q hq => ?_, h4⟩
    rcases List.mem_cons.1 hq with rfl | hq
    · exact h1
    · exact h3 q hq
theorem run_bounds {P : Program} {w : World} {lo hi mx : Option Value} {l h m : Option Int} (hl : OptIs lo l) (hh : OptIs hi h) (hm : OptIs mx m) {isSlice : Bool} {len cap kn : Nat} (hk : kn ≤ cap) (hlen : len ≤ cap) (hc : ∀ p ∈ cutNeeds l h m len kn, p = true) :
    (Instr.sliceBounds isSlice len cap lo hi mx).run P w = .ok ((l.getD 0).toNat, (h.getD len).toNat, (m.getD cap).toNat) w ∧ 0 ≤ l.getD 0 ∧ l.getD 0 ≤ h.getD len ∧ h.getD len ≤ m.getD cap ∧ m.getD cap ≤ cap ∧ (h.isSome = true → h.getD len ≤ m.getD kn) ∧ m.getD kn ≤ kn := by
  rcases hl with ⟨rfl, rfl⟩ | ⟨k1, zl, rfl, rfl⟩ <;> rcases hh with ⟨rfl, rfl⟩ | ⟨k2, zh, rfl, rfl⟩ <;> rcases hm with ⟨rfl, rfl⟩ | ⟨k3, zm, rfl, rfl⟩ <;> simp [cutNeeds] at hc ⊢
  · simp [Instr.sliceBounds, Int.toNat_natCast]; omega
  · simp [Instr.sliceBounds, run_sliceBound_if, show 0 ≤ zh ∧ zh ≤ (cap : Int) by omega]; omega
  · have e : (zm.toNat : Int) = zm := Int.toNat_of_nonneg (by omega)
    simp [Instr.sliceBounds, run_sliceBound_if, show 0 ≤ zm ∧ zm ≤ (cap : Int) by omega, e, show 0 ≤ zh ∧ zh ≤ zm by omega]; omega
  · simp [Instr.sliceBounds, run_sliceBound_if, show 0 ≤ zl ∧ zl ≤ (len : Int) by omega]; omega
  · have e : (zh.toNat : Int) = zh := Int.toNat_of_nonneg (by omega)
    simp [Instr.sliceBounds, run_sliceBound_if, show 0 ≤ zh ∧ zh ≤ (cap : Int) by omega, e, show 0 ≤ zl ∧ zl ≤ zh by omega]; omega
  · have e : (zm.toNat : Int) = zm := Int.toNat_of_nonneg (by omega)
    have e2 : (zh.toNat : Int) = zh := Int.toNat_of_nonneg (by omega)
    simp [Instr.sliceBounds, run_sliceBound_if, show 0 ≤ zm ∧ zm ≤ (cap : Int) by omega, e, e2, show 0 ≤ zh ∧ zh ≤ zm by omega, show 0 ≤ zl ∧ zl ≤ zh by omega]; omega

/-- A cut of data. -/
def cutD (xs ext : List D) (lo hi : Option Int) : List D :=
  let ys := match hi with | none => xs | some h => match ext with | [] => xs.take h.toNat | _ => (xs ++ ext).take h.toNat
  match lo with | none => ys | some l => ys.drop l.toNat
def cutDP (E : Ev) (o : Oper) (sz : Nat) (nl : Bool) (xs ext : List D) (lo hi mx : Option Int) : Prog :=
  needs (cutNeeds lo hi mx xs.length (xs.length + ext.length)) (putD E o (.d (.sl sz nl (cutD xs ext lo hi) [])))
def sliceP (E : Ev) (o : Oper) (t : TypeId) (x : Operand) (lo hi mx : Option Operand) : Prog :=
  opnd E.T E.G t x fun v => optP E lo fun l => optP E hi fun h => optP E mx fun m => match E.T.get t with
    | some { desc := .string, .. } => match v with
      | .d (.str s) => if m.isSome then .fail else needs (cutNeeds l h none s.size s.size) (putD E o (.d (.str (s.extract (l.getD 0).toNat (h.getD s.size).toNat))))
      | _ => .fail
    | some { desc := .slice e, .. } => match E.T.get e with
      | some te => match v with
        | .d (.sl sz nl xs ext) => if sz = te.size then cutDP E o sz nl xs ext l h m else .fail
        | .ref tk l0 => .getT tk fun en => match en with
          | .row _ _ _ sz xs => if sz = te.size then (match l, h, m with
              | none, none, none => putD E o v
              | none, some n, none => needs [decide (0 ≤ n), decide (n ≤ xs.length)] (putD E o (.ref tk (some n.toNat)))
              | _, _, _ => freeze v fun y => match y with
                | .sl sz nl xs ext => if sz = te.size then cutDP E o sz nl xs ext l h m else .fail
                | _ => .fail) else .fail
          | _ => .fail
        | _ => .fail
      | none => .fail
    | _ => .fail
theorem lies_cut {H : Fz} {ad : Addr} {cs : List Value} (h : Lies H ad cs) (i n : Nat) : Lies H (ad.add i) ((cs.drop i).take n) := fun j u hj => by
  refine (h.drop i) j u ?_
  rw [List.getElem?_take] at hj
  by_cases hn : j < n
  · rwa [if_pos hn] at hj
  · rw [if_neg hn] at hj; cases hj
theorem cutD_eq (xs ext : List D) (l h : Option Int) : cutD xs ext l h = ((xs ++ ext).take (h.getD xs.length).toNat).drop (l.getD 0).toNat := by
  cases l <;> cases h <;> cases ext <;> simp [cutD]
/-- A cut of data is data. -/
theorem cutD_rep {H : Fz} {sz : Nat} {nl : Bool} {xs ext : List D} {A : Option Addr} {n c : Nat} (hr : D.Rep H (.sl sz nl xs ext) [.slice A n c]) {l h m : Option Int} (h0 : 0 ≤ l.getD 0) (h1 : l.getD 0 ≤ h.getD xs.length) (h2 : h.getD xs.length ≤ m.getD c) (h3 : m.getD c ≤ c) (h4 : h.isSome = true → h.getD xs.length ≤ ((xs.length + ext.length : Nat) : Int)) :
    n = xs.length ∧ D.Rep H (.sl sz nl (cutD xs ext l h) []) [.slice (if (m.getD c).toNat = (l.getD 0).toNat then A else A.map (·.add ((l.getD 0).toNat * sz))) ((h.getD xs.length).toNat - (l.getD 0).toNat) ((m.getD c).toNat - (l.getD 0).toNat)] := by
  rw [cutD_eq]
  unfold D.Rep at hr
  rcases hr with ⟨rfl, rfl, rfl, e1⟩ | ⟨rfl, ad, cap, c1, c2, e1, g1, g2, g3, g4, g5, g6, g7⟩
  · simp at e1
    obtain ⟨rfl, rfl, rfl⟩ := e1
    refine ⟨rfl, ?_⟩
    unfold D.Rep
    refine .inl ⟨rfl, by simp, rfl, ?_⟩
    have hh : (h.getD 0).toNat = 0 := by simp at h2 h3; omega
    have hm : (m.getD 0).toNat = 0 := by simp at h3; omega
    simp [hh, hm]
  · simp at e1
    obtain ⟨rfl, rfl, rfl⟩ := e1
    refine ⟨rfl, ?_⟩
    have hlen : (h.getD xs.length).toNat ≤ (xs ++ ext).length := by
      rw [List.length_append]
      cases h with
      | none => simp
      | some z => have := h4 rfl; simp at this ⊢; omega
    have hw : ∀ x ∈ ((xs ++ ext).take (h.getD xs.length).toNat).drop (l.getD 0).toNat, x.width = sz := fun x hx => by
      rcases List.mem_append.1 (List.mem_of_mem_take (List.mem_of_mem_drop hx)) with hx | hx
      · exact g6 x hx
      · exact g7 x hx
    have hwa : ∀ x ∈ xs ++ ext, x.width = sz := fun x hx => by
      rcases List.mem_append.1 hx with hx | hx
      · exact g6 x hx
      · exact g7 x hx
    -- the cells
    have hall : D.RepL H (xs ++ ext) (c1 ++ c2) := D.RepL.append g5 g4
    have hcl : (c1 ++ c2).length = (xs ++ ext).length * sz := by rw [D.RepL.len _ _ hall, D.widthL_const hwa]
    have hsub : D.RepL H (((xs ++ ext).take (h.getD xs.length).toNat).drop (l.getD 0).toNat) (((c1 ++ c2).drop ((l.getD 0).toNat * sz)).take (((h.getD xs.length).toNat - (l.getD 0).toNat) * sz)) := by
      have q : xs ++ ext = (xs ++ ext).take (l.getD 0).toNat ++ (((xs ++ ext).take (h.getD xs.length).toNat).drop (l.getD 0).toNat ++ (xs ++ ext).drop (h.getD xs.length).toNat) := by
        have : (l.getD 0).toNat ≤ (h.getD xs.length).toNat := by omega
        conv => lhs; rw [← List.take_append_drop (h.getD xs.length).toNat (xs ++ ext)]
        conv => lhs; lhs; rw [← List.take_append_drop (l.getD 0).toNat ((xs ++ ext).take (h.getD xs.length).toNat)]
        rw [List.take_take, Nat.min_eq_left this, List.append_assoc]
      rw [q] at hall
      obtain ⟨p1, p2, e2, k1, k2⟩ := D.RepL.split hall
      obtain ⟨p3, p4, e3, k3, k4⟩ := D.RepL.split k2
      rw [e2, e3]
      have hp1 : p1.length = (l.getD 0).toNat * sz := by
        rw [D.RepL.len _ _ k1, D.widthL_const (sz := sz) (fun x hx => hwa x (List.mem_of_mem_take hx)), List.length_take, Nat.min_eq_left (by omega)]
      have hp3 : p3.length = ((h.getD xs.length).toNat - (l.getD 0).toNat) * sz := by
        rw [D.RepL.len _ _ k3, D.widthL_const hw, List.length_drop, List.length_take, Nat.min_eq_left hlen]
      rw [← hp1, List.drop_left, ← hp3, List.take_left]
      exact k3
    have hxl : (((xs ++ ext).take (h.getD xs.length).toNat).drop (l.getD 0).toNat).length = (h.getD xs.length).toNat - (l.getD 0).toNat := by
      rw [List.length_drop, List.length_take, Nat.min_eq_left hlen]
    unfold D.Rep
    by_cases hml : (m.getD c).toNat = (l.getD 0).toNat
    · rw [if_pos hml]
      have hz : (h.getD xs.length).toNat - (l.getD 0).toNat = 0 := by omega
      have hnil : ((xs ++ ext).take (h.getD xs.length).toNat).drop (l.getD 0).toNat = [] := List.eq_nil_of_length_eq_zero (by rw [hxl, hz])
      rw [hnil]
      refine .inr ⟨rfl, ad, _, [], [], by rw [hz]; rfl, by simp, by omega, by simp [Lies], by unfold D.RepL; rfl, by unfold D.RepL; rfl, by simp, by simp⟩
    · rw [if_neg hml]
      refine .inr ⟨rfl, ad.add ((l.getD 0).toNat * sz), _, _, [], by rw [hxl]; rfl, by rw [hxl]; simp; omega, by omega, ?_, hsub, by unfold D.RepL; rfl, hw, by simp⟩
      rw [List.append_nil]
      exact lies_cut g3 _ _
theorem run_slice_at {P : Program} {w : World} {t e : TypeId} {te : TD} (hu : P.underlying t = some (.slice e)) (hd : TdOk P e te) {A : Option Addr} {n c L Hh M : Nat} {lo hi mx : Option Value} (hb : (Instr.sliceBounds true n c lo hi mx).run P w = .ok (L, Hh, M) w) :
    (Instr.sliceAt t (.slice A n c) lo hi mx).run P w = .ok (.slice (if M = L then A else A.map (·.add (L * te.size))) (Hh - L) (M - L)) w := by
  simp [Instr.sliceAt, Instr.slice, run_underlying hu, hb, hd.run_size]
theorem cutDP_run (k : Cxk X E) {H : Fz} {L : Vl} {σ σ' : St} {a : Act} {w : World} (r : Rel X H L σ a w) {o : Oper} {t e : TypeId} {te : TD} (hu : X.P.underlying t = some (.slice e)) (hd : TdOk X.P e te) {nl : Bool} {xs ext : List D} {u : Value} (hr : D.Rep H (.sl te.size nl xs ext) [u])
    {lo hi mx : Option Value} {l h m : Option Int} (hl : OptIs lo l) (hh : OptIs hi h) (hm : OptIs mx m) (hrun : (cutDP E o te.size nl xs ext l h m).run C σ = some σ') :
    ∃ v', (Instr.sliceAt t u lo hi mx).run X.P w = .ok v' w ∧ Rel X H L σ' (a.put o.dst v') w := by
  obtain ⟨h1, h2⟩ := needs_run hrun
  obtain ⟨A, n, c, rfl⟩ : ∃ A n c, u = .slice A n c := by
    have hr' := hr
    unfold D.Rep at hr'
    rcases hr' with ⟨_, _, _, e1⟩ | ⟨_, _, _, _, _, e1, _⟩
    · exact ⟨none, 0, 0, by simpa using e1⟩
    · exact ⟨_, _, _, by simpa using e1⟩
  have hlc : n = xs.length ∧ xs.length + ext.length ≤ c := by
    have hr' := hr
    unfold D.Rep at hr'
    rcases hr' with ⟨_, rfl, rfl, e1⟩ | ⟨_, _, _, _, _, e1, g1, _⟩
    · simp at e1; simp [e1]
    · simp at e1; obtain ⟨_, rfl, rfl⟩ := e1; exact ⟨rfl, g1⟩
  obtain ⟨rfl, hlc⟩ := hlc
  obtain ⟨b1, b2, b3, b4, b5, b6, b7⟩ := run_bounds (P := X.P) (w := w) hl hh hm (isSlice := true) (len := xs.length) (cap := c) (kn := xs.length + ext.length) hlc (by omega) h1
  obtain ⟨_, hrep⟩ := cutD_rep hr b2 b3 b4 b5 (fun hs => by have := b6 hs; omega)
  exact ⟨_, run_slice_at hu hd b1, putD_run k r (by unfold Val.Rep; exact hrep) h2⟩
theorem sliceP_ok (k : Cxk X E) {o : Oper} {t : TypeId} {x : Operand} {lo hi mx : Option Operand} (ho : o.op = .slice t x lo hi mx) : OpOk X C o (sliceP E o t x lo hi mx) := by
  intro H L σ a w σ' r h K Q hK
  obtain ⟨v, h1, h2⟩ := opnd_run k r h
  obtain ⟨l, h3, hl⟩ := optP_run k r h1
  obtain ⟨hh, h4, hhi⟩ := optP_run k r h3
  obtain ⟨m, h5, hm⟩ := optP_run k r h4
  have fin : ∀ H1 L1 u, (Instr.sliceAt t (a.eval x) (lo.map a.eval) (hi.map a.eval) (mx.map a.eval)).run X.P w = .ok u w → Rel X H1 L1 σ' (a.put o.dst u) w → o.wp X.P a w K Q := fun H1 L1 u hr r1 =>
    wp_value (w1 := w) (v := u) (by simp [execOp, ho, hr]) (hK _ _ _ _ r1)
  split at h5
  · rename_i _ _ _ ht
    split at h5
    case h_2 => exact (fail_run h5).elim
    rename_i s
    split at h5
    · exact (fail_run h5).elim
    rename_i hms
    obtain ⟨q1, q2⟩ := needs_run h5
    have hm' : OptIs (mx.map a.eval) none := by
      rcases hm with ⟨e1, rfl⟩ | ⟨_, _, _, rfl⟩
      · exact .inl ⟨e1, rfl⟩
      · simp at hms
    obtain ⟨b1, _⟩ := run_bounds (P := X.P) (w := w) hl hhi hm' (isSlice := false) (len := s.size) (cap := s.size) (kn := s.size) (Nat.le_refl _) (Nat.le_refl _) q1
    have hmx : (mx.map a.eval).isSome = false := by
      rcases hm' with ⟨e1, _⟩ | ⟨_, _, _, h⟩
      · rw [e1]; rfl
      · cases h
    have hmx' : mx.map a.eval = none := by simpa using hmx
    rw [hmx'] at b1
    refine fin H L (.string (s.extract (l.getD 0).toNat (hh.getD s.size).toNat)) ?_ (putD_run k r rep_str q2)
    rw [hmx', repD_str h2]
    simp [Instr.sliceAt, Instr.slice, run_underlying (k.tab _ _ ht).und, b1]
  · rename_i e _ _ _ ht
    split at h5
    case h_2 => exact (fail_run h5).elim
    rename_i te hte
    have hu := (k.tab _ _ ht).und
    have hd := k.tab _ _ hte
    split at h5
    · rename_i sz nl xs ext
      split at h5
      case isFalse => exact (fail_run h5).elim
      rename_i hsz
      subst hsz
      unfold Val.Rep at h2
      obtain ⟨v', g1, g2⟩ := cutDP_run k r hu hd h2 hl hhi hm h5
      exact fin H L v' g1 g2
    · rename_i tk l0
      simp only [Prog.run] at h5
      split at h5
      case h_2 => exact (fail_run h5).elim
      rename_i mt nl e' sz xs hrow
      split at h5
      case isFalse => exact (fail_run h5).elim
      rename_i hsz
      have he := r.ents tk
      rw [hrow] at he
      split at h5
      · -- all of it
        have e1 : lo.map a.eval = none := by rcases hl with ⟨e1, _⟩ | ⟨_, _, _, e1⟩; exact e1; cases e1
        have e2 : hi.map a.eval = none := by rcases hhi with ⟨e1, _⟩ | ⟨_, _, _, e1⟩; exact e1; cases e1
        have e3 : mx.map a.eval = none := by rcases hm with ⟨e1, _⟩ | ⟨_, _, _, e1⟩; exact e1; cases e1
        obtain ⟨A, n, c, hv⟩ : ∃ A n c, a.eval x = .slice A n c := by
          obtain ⟨_, g1, _⟩ := ref_val he h2
          rcases g1.2 with ⟨e0, _⟩ | ⟨_, _, _, e0, _⟩ <;> exact ⟨_, _, _, e0⟩
        refine fin H L (a.eval x) ?_ (putD_run k r h2 h5)
        rw [e1, e2, e3, hv]
        simp [Instr.sliceAt, Instr.slice, run_underlying hu, Instr.sliceBounds, hd.run_size]
        cases A <;> simp [Addr.add]
      · -- made shorter
        rename_i n
        obtain ⟨q1, q2⟩ := needs_run h5
        have p1 : 0 ≤ n := by simpa using q1 _ (List.mem_cons_self)
        have p2 : n ≤ xs.length := by simpa using q1 _ (List.mem_cons_of_mem _ (List.mem_cons_self))
        have e1 : lo.map a.eval = none := by rcases hl with ⟨e1, _⟩ | ⟨_, _, _, e1⟩; exact e1; cases e1
        have e3 : mx.map a.eval = none := by rcases hm with ⟨e1, _⟩ | ⟨_, _, _, e1⟩; exact e1; cases e1
        obtain ⟨ki, hk⟩ : ∃ ki, hi.map a.eval = some (.int ki n) := by
          rcases hhi with ⟨_, e2⟩ | ⟨ki, z, e2, e4⟩
          · cases e2
          · cases e4; exact ⟨ki, e2⟩
        obtain ⟨_, g1, _⟩ := ref_val he h2
        obtain ⟨v0, cells, p3, p4, _⟩ := he
        have hcap : ∃ A m c, L tk = some (.slice A xs.length c) ∧ a.eval x = .slice A m c ∧ xs.length ≤ c := by
          have hc0 : ∃ A c, v0 = .slice A xs.length c ∧ xs.length ≤ c := by
            rcases p4.2 with ⟨e0, e4⟩ | ⟨_, _, _, e0, _, _, e4, _⟩
            · exact ⟨none, 0, by rw [e0, e4], by omega⟩
            · exact ⟨_, _, e0, e4⟩
          obtain ⟨A, c, e0, e4⟩ := hc0
          cases l0 with
          | none =>
            unfold Val.Rep at h2
            rw [p3] at h2
            obtain ⟨h2, _⟩ := h2
            cases h2
            exact ⟨A, _, c, by rw [p3, e0], e0, e4⟩
          | some n0 =>
            unfold Val.Rep at h2
            obtain ⟨A', n', c', j1, j2, _⟩ := h2
            rw [p3, e0] at j1
            cases j1
            exact ⟨A, n0, c, by rw [p3, e0], j2, e4⟩
        obtain ⟨A, m', c, j1, j2, j3⟩ := hcap
        have hn : n.toNat ≤ xs.length := by omega
        refine fin H L (.slice A n.toNat c) ?_ (putD_run k r (by unfold Val.Rep; exact ⟨A, _, c, j1, rfl, hn⟩) q2)
        rw [e1, e3, hk, j2]
        have hnc : n ≤ (c : Int) := by omega
        simp [Instr.sliceAt, Instr.slice, run_underlying hu, Instr.sliceBounds, run_sliceBound_if, p1, hnc, hd.run_size]
        cases A <;> simp [Addr.add]
      · -- as data
        obtain ⟨y, H1, σ1, g1, g2, g3, g4, _⟩ := freeze_run (H := H) _ r h2 h5
        split at g1
        · split at g1
          case isFalse => exact (fail_run g1).elim
          rename_i hs2
          subst hs2
          obtain ⟨v', j1, j2⟩ := cutDP_run k g3 hu hd g4 hl hhi hm g1
          exact fin H1 L v' j1 j2
        · exact (fail_run g1).elim
    · exact (fail_run h5).elim
  · exact (fail_run h5).elim
end
end Go.Ab
