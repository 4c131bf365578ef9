/- What says as much as what: itself, through a third; its point is under the other one's; clauses and their normal ones. Plain lists; no condition. -/
import Derived.Test.YtekdlnofmbfdgaaDoorSubsumes0
import Derived.Test.YtekdlnofmbfdgaaDoorSubsumes1
import Derived.Test.YtekdlnofmbfdgaaDoorSubsumes2
import Derived.Test.YtekdlnofmbfdgaaDoorSubsumes3
import Derived.Test.YtekdlnofmbfdgaaDoorSubsumes4
import Derived.Test.YtekdlnofmbfdgaaDoorSubsumes5
import Derived.Test.YtekdlnofmbfdgaaDoorSubsumes6
import Derived.Test.YtekdlnofmbfdgaaDoorSubsumes7
import Derived.Test.YtekdlnofmbfdgaaDoorSubsumes8
import Derived.Test.YtekdlnofmbfdgaaDoorSubsumes9
import Derived.Test.YtekdlnofmbfdgaaDoorSubsumes10
import Derived.Test.YtekdlnofmbfdgaaDoorSubsumes11
import Derived.Test.YtekdlnofmbfdgaaDoorSubsumes12
import Derived.Test.YtekdlnofmbfdgaaDoorSubsumes13
set_option linter.unusedVariables false
set_option linter.unusedSimpArgs false
namespace Go.Qu
open Go Go.Ab

theorem arOf_var {g : List Sym} {c : Int} (h : c < 0) (h2 : -24 ≤ c) : arOf g c = some 0 := by rw [arOf, if_pos h, if_pos h2]
theorem lenN_one {g : List Sym} {c : Int} (h : c < 0) (h2 : -24 ≤ c) : lenN g [c] 1 = some 1 := by simp [lenN, arOf_var h h2]
/-- Each variable for itself. -/
def idS : Sb := fun v => if v ≤ 23 then [-1 - (v : Int)] else [-1]
theorem idS_ok (g : List Sym) : idS.Ok g := fun v => by
  unfold idS
  split
  · exact lenN_one (by omega) (by omega)
  · exact lenN_one (by omega) (by omega)
theorem app_id : ∀ {a : List Int}, (∀ c ∈ a, -24 ≤ c) → app idS a = a
  | [], _ => rfl
  | c :: a, h => by
    rw [app_cons, app_id (fun x hx => h x (by simp [hx]))]
    have hc := h c (by simp)
    unfold appC
    split
    · rfl
    · have h1 : vN c ≤ 23 := by unfold vN; omega
      have h2 : (-1 - (vN c : Int)) = c := by unfold vN; omega
      rw [idS, if_pos h1, h2]; rfl
theorem says_refl {g : List Sym} {c : CC} (h : ClOk g c) : Says g c c := by
  have hc := cl_codes h
  refine ⟨idS, idS_ok g, fun l hl => ?_, fun r hr => ?_, fun l hl => ?_⟩
  · rw [app_id (fun x hx => (hc _ (in_ls hl) x hx).1)]; exact hl
  · rw [app_id (fun x hx => (hc r (by simp [CC.rows, hr]) x hx).1)]; exact hr
  · rw [app_id (fun x hx => (hc _ (in_cs hl) x hx).1)]; exact hl
/-- Terms put into terms. -/
theorem app_lenN {g : List Sym} {σ : Sb} (hσ : σ.Ok g) : ∀ {r : List Int} {n : Nat}, lenN g r n = some r.length → lenN g (app σ r) n = some (app σ r).length
  | [], 0, h => rfl
  | c :: r, 0, h => by simp [lenN] at h
  | [], n + 1, h => by simp [lenN] at h
  | c :: r, n + 1, h => by
    obtain ⟨a, m, ha, hm, hk⟩ := lenN_some h
    simp only [List.length_cons, Nat.add_right_cancel_iff] at hk
    have ih := app_lenN hσ (r := r) (n := n + a) (by rw [hm, hk])
    rw [app_cons]
    unfold appC
    split
    · rename_i h0
      rw [List.singleton_append, lenN_cons ha, ih]; simp
    · rename_i h0
      have ha0 : a = 0 := by
        rw [arOf, if_pos (by omega)] at ha
        split at ha
        · cases ha; rfl
        · cases ha
      subst ha0
      have h1 := lenN_split (r := σ (vN c) ++ app σ r) (n := 1) n (lenN_app (app σ r) (hσ (vN c)))
      rw [Nat.add_comm 1 n] at h1
      rw [Nat.add_zero] at ih
      rw [h1, List.drop_left, ih]; simp
def compS (σ τ : Sb) : Sb := fun v => app τ (σ v)
theorem app_comp {σ τ : Sb} : ∀ (a : List Int), app τ (app σ a) = app (compS σ τ) a
  | [] => rfl
  | c :: a => by
    rw [app_cons, app_cons, app_app, app_comp a]
    congr 1
    unfold appC
    split
    · simp [app, appC, *]
    · rfl
theorem says_trans {g : List Sym} {c d e : CC} (h : Says g c d) (h' : Says g d e) : Says g c e := by
  obtain ⟨σ, hσ, h1, h2, h3⟩ := h
  obtain ⟨τ, hτ, k1, k2, k3⟩ := h'
  refine ⟨compS σ τ, fun v => app_lenN hτ (hσ v), fun l hl => ?_, fun r hr => ?_, fun l hl => ?_⟩
  · rw [← app_comp]; exact k1 _ (h1 l hl)
  · rw [← app_comp]; exact k2 _ (h2 r hr)
  · rw [← app_comp]; exact k3 _ (h3 l hl)
/-! ### Points -/
theorem sumW_app (g : List Sym) : ∀ (a b : List Int), sumW g (a ++ b) = sumW g a + sumW g b
  | [], b => by simp [sumW]
  | c :: a, b => by simp [sumW, sumW_app g a b]; omega
theorem one_codes {g : List Sym} {t : List Int} (h : lenN g t 1 = some t.length) : 1 ≤ t.length ∧ Known g t := by
  have h1 := parts_one h
  rw [List.take_length] at h1
  exact ⟨(lenN_le h).2, fun c hc => (arOf_lt (parts_codes _ t (Nat.le_refl _) h1 c hc)).2⟩
theorem sumW_sub {g : List Sym} (hg : SigOk g) {σ : Sb} (hσ : σ.Ok g) : ∀ (a : List Int), sumW g a ≤ sumW g (app σ a)
  | [] => by simp [app, sumW]
  | c :: a => by
    have ih := sumW_sub hg hσ a
    rw [app_cons, sumW_app, sumW]
    unfold appC
    split
    · simp only [sumW]; omega
    · rename_i h0
      have h1 := one_codes (hσ (vN c))
      have h2 := sumW_le hg _ h1.2
      have h3 : codeW g c = 1 := by rw [codeW, if_pos (by omega)]
      omega
/-- The greatest weight of those literals. -/
def topL (g : List Sym) (neg : Bool) : List LC → Int → Int
  | [], a => a
  | l :: ls, a => if l.1 = neg then topL g neg ls (if sumW g l.2 > a then sumW g l.2 else a) else topL g neg ls a
theorem top_le {g : List Sym} {neg : Bool} : ∀ {ls : List LC} {a n : Int}, topL g neg ls a ≤ n ↔ a ≤ n ∧ ∀ l ∈ ls, l.1 = neg → sumW g l.2 ≤ n
  | [], a, n => by simp [topL]
  | l :: ls, a, n => by
    rw [topL]
    split
    · rename_i h
      rw [top_le]
      constructor
      · rintro ⟨h1, h2⟩
        refine ⟨by split at h1 <;> omega, fun x hx hn => ?_⟩
        rcases List.mem_cons.1 hx with rfl | hx
        · split at h1 <;> omega
        · exact h2 x hx hn
      · rintro ⟨h1, h2⟩
        refine ⟨?_, fun x hx hn => h2 x (by simp [hx]) hn⟩
        have := h2 l (by simp) h
        split <;> omega
    · rename_i h
      rw [top_le]
      constructor
      · rintro ⟨h1, h2⟩
        refine ⟨h1, fun x hx hn => ?_⟩
        rcases List.mem_cons.1 hx with rfl | hx
        · exact absurd hn h
        · exact h2 x hx hn
      · rintro ⟨h1, h2⟩
        exact ⟨h1, fun x hx hn => h2 x (by simp [hx]) hn⟩
theorem ptF_top (g : List Sym) : ∀ (ls : List LitR) (a b : Int), ptF g ls a b = (topL g false (ls.map LitR.c) a, topL g true (ls.map LitR.c) b)
  | [], a, b => rfl
  | l :: ls, a, b => by
    rw [ptF, List.map_cons, topL, topL]
    cases h : l.neg
    · simp only [LitR.c, h, if_true, Bool.false_eq_true, if_false]
      exact ptF_top g ls _ _
    · simp only [LitR.c, h, if_true, Bool.true_eq_false, if_false]
      exact ptF_top g ls _ _
theorem says_under {g : List Sym} (hg : SigOk g) {c d : CC} (h : Says g c d) (neg : Bool) : topL g neg c.ls 0 ≤ topL g neg d.ls 0 := by
  obtain ⟨σ, hσ, h1, _, _⟩ := h
  have h2 := (top_le (g := g) (neg := neg) (ls := d.ls) (a := 0) (n := topL g neg d.ls 0)).1 (Int.le_refl _)
  refine top_le.2 ⟨h2.1, fun l hl hn => ?_⟩
  have h3 := sumW_sub hg hσ l.2
  have h4 := h2.2 _ (h1 l hl) hn
  exact Int.le_trans h3 h4
/-! ### Normal clauses -/
theorem app_map {f : Int → Int} {σ : Sb} : ∀ {a : List Int}, (∀ c ∈ a, 0 ≤ c → f c = c) → (∀ c ∈ a, c < 0 → σ (vN c) = [f c]) → app σ a = a.map f
  | [], _, _ => rfl
  | c :: a, h1, h2 => by
    rw [app_cons, app_map (fun x hx => h1 x (by simp [hx])) (fun x hx => h2 x (by simp [hx])), List.map_cons]
    unfold appC
    split
    · rename_i h0; rw [h1 c (by simp) h0]; rfl
    · rename_i h0; rw [h2 c (by simp) (by omega)]; rfl
theorem says_norm {g : List Sym} {c : CC} (h : ClOk g c) : Says g c (normC c) ∧ Says g (normC c) c := by
  have hs := seenC_len h
  have hcod := cl_codes h
  have hm : ∀ r ∈ c.rows, ∀ x ∈ r, x < 0 → x ∈ seenC c := fun r hr x hx h0 => mem_seenC.2 ⟨h0, r, hr, hx⟩
  have hneg : ∀ x ∈ seenC c, x < 0 ∧ -24 ≤ x := fun x hx => by
    obtain ⟨h0, r, hr, h1⟩ := mem_seenC.1 hx
    exact ⟨h0, (hcod r hr x h1).1⟩
  constructor
  · let σ : Sb := fun v => if (-1 - (v : Int)) ∈ seenC c then [renC (seenC c) (-1 - (v : Int))] else [-1]
    have hσ : σ.Ok g := fun v => by
      show lenN g (if (-1 - (v : Int)) ∈ seenC c then [renC (seenC c) (-1 - (v : Int))] else [-1]) 1 = some (if (-1 - (v : Int)) ∈ seenC c then [renC (seenC c) (-1 - (v : Int))] else [-1]).length
      split
      · rename_i hv
        have h1 := List.idxOf_lt_length_of_mem hv
        refine lenN_one ((ren_neg _ _).2 (by omega)) ?_
        rw [renC, if_neg (by omega)]; omega
      · exact lenN_one (by omega) (by omega)
    have ha : ∀ r ∈ c.rows, app σ r = renR (seenC c) r := fun r hr => by
      refine app_map (fun x _ h0 => by simp [renC, h0]) (fun x hx h0 => ?_)
      have h1 : (-1 - (vN x : Int)) = x := by unfold vN; omega
      show (if (-1 - (vN x : Int)) ∈ seenC c then [renC (seenC c) (-1 - (vN x : Int))] else [-1]) = _
      rw [h1, if_pos (hm r hr x hx h0)]
    refine ⟨σ, hσ, fun l hl => ?_, fun r hr => ?_, fun l hl => ?_⟩
    · rw [ha _ (in_ls hl)]
      exact List.mem_map.2 ⟨l, (mem_once c.ls [] l).2 (.inr hl), rfl⟩
    · rw [ha r (by simp [CC.rows, hr])]
      exact List.mem_map.2 ⟨r, (mem_once c.ts [] r).2 (.inr hr), rfl⟩
    · rw [ha _ (in_cs hl)]
      exact List.mem_map.2 ⟨l, (mem_once c.cs [] l).2 (.inr hl), rfl⟩
  · let τ : Sb := fun v => match (seenC c)[v]? with | some x => [x] | none => [-1]
    have hτ : τ.Ok g := fun v => by
      show lenN g (match (seenC c)[v]? with | some x => [x] | none => [-1]) 1 = some (match (seenC c)[v]? with | some x => [x] | none => [-1]).length
      split
      · rename_i x hx
        have := hneg x (List.mem_of_getElem? hx)
        exact lenN_one this.1 this.2
      · exact lenN_one (by omega) (by omega)
    have hx : ∀ x ∈ seenC c, τ (vN (renC (seenC c) x)) = [x] := fun x hx => by
      have h0 := (hneg x hx).1
      have h1 := List.idxOf_lt_length_of_mem hx
      have h2 : vN (renC (seenC c) x) = (seenC c).idxOf x := by unfold vN; rw [renC, if_neg (by omega)]; omega
      show (match (seenC c)[vN (renC (seenC c) x)]? with | some x => [x] | none => [-1]) = [x]
      rw [h2, List.getElem?_eq_getElem h1, List.getElem_idxOf]
    have hr : ∀ (r : List Int), (∀ x ∈ r, x < 0 → x ∈ seenC c) → app τ (renR (seenC c) r) = r := by
      intro r
      induction r with
      | nil => intro _; rfl
      | cons x r ih =>
        intro h1
        rw [renR, List.map_cons, app_cons]
        have h2 := ih (fun y hy => h1 y (by simp [hy]))
        rw [renR] at h2
        rw [h2]
        unfold appC
        by_cases h0 : 0 ≤ x
        · have : renC (seenC c) x = x := by simp [renC, h0]
          rw [this, if_pos h0]; rfl
        · rw [if_neg (by have := (ren_neg (seenC c) x).2 (by omega); omega), hx x (h1 x (by simp) (by omega))]; rfl
    refine ⟨τ, hτ, fun l hl => ?_, fun r hr' => ?_, fun l hl => ?_⟩
    · obtain ⟨m, hm1, rfl⟩ := List.mem_map.1 hl
      have h1 : m ∈ c.ls := by simpa using (mem_once c.ls [] m).1 hm1
      have h2 := hr m.2 (hm _ (in_ls h1))
      show (m.1, app τ (renR (seenC c) m.2)) ∈ c.ls
      rw [h2]; exact h1
    · obtain ⟨m, hm1, rfl⟩ := List.mem_map.1 hr'
      have h1 : m ∈ c.ts := by simpa using (mem_once c.ts [] m).1 hm1
      rw [hr m (hm m (by simp [CC.rows, h1]))]; exact h1
    · obtain ⟨m, hm1, rfl⟩ := List.mem_map.1 hl
      have h1 : m ∈ c.cs := by simpa using (mem_once c.cs [] m).1 hm1
      have h2 := hr m.2 (hm _ (in_cs h1))
      show (m.1, app τ (renR (seenC c) m.2)) ∈ c.cs
      rw [h2]; exact h1
end Go.Qu

/- Rows that become others: what the program's functions hand back. For every input; no condition. -/
set_option linter.unusedVariables false
set_option linter.unusedSimpArgs false
set_option maxRecDepth 100000
namespace Go.Proofs.YtekdlnofmbfdgaaDoor.Ab
open Go Go.Ab Go.Qu Go.Proofs
attribute [local simp] and_assoc
/-- The table of what stands for variables. -/
def bsD (s : Bs) : List D := (List.range 24).map fun v => match s v with | none => .sl 1 true [] [] | some t => .sl 1 false (ints t) []
theorem bsD_len (s : Bs) : (bsD s).length = 24 := by simp [bsD]
theorem bsD_at (s : Bs) {v : Nat} (hv : v < 24) : (bsD s)[v]? = some (match s v with | none => .sl 1 true [] [] | some t => .sl 1 false (ints t) []) := by
  simp [bsD, hv]
theorem bsD_set (s : Bs) {v : Nat} (hv : v < 24) (t : List Int) : (bsD s).set v (.sl 1 false (ints t) []) = bsD (s.upd v t) := by
  refine List.ext_getElem (by simp [bsD]) (fun i h1 h2 => ?_)
  have hi : i < 24 := by simpa [bsD] using h1
  rw [List.getElem_set]
  by_cases hvi : v = i
  · subst hvi
    rw [if_pos rfl]
    simp [bsD, Bs.upd]
  · rw [if_neg hvi]
    have hne : ¬ i = v := fun e => hvi e.symm
    simp [bsD, Bs.upd, hne]
theorem bsD_none : bsD (fun _ => none) = List.replicate 24 (.sl 1 true [] []) := by
  show (List.range 24).map (fun _ => D.sl 1 true [] []) = _
  rw [List.map_const', List.length_range]
theorem width_one : ∀ (l : List D), (∀ x ∈ l, D.width x = 1) → D.widthL l = l.length
  | [], _ => by simp [D.widthL]
  | x :: l, h => by
    have := width_one l (fun y hy => h y (by simp [hy]))
    simp [D.widthL, h x (by simp), this]; omega
theorem bsD_width (s : Bs) : D.width (.agg (bsD s)) = 24 := by
  rw [D.width, width_one _ (fun x hx => ?_), bsD_len]
  simp only [bsD, List.mem_map] at hx
  obtain ⟨v, _, rfl⟩ := hx
  cases s v <;> simp [D.width]
/-- As the program goes: what stands then, and what is left. -/
def growL (g : List Sym) : Bs → List Int → List Int → Bs × Option (List Int)
  | s, [], b => (s, some b)
  | s, c :: a, b => if b = [] then (s, none) else
    if 0 ≤ c then (if b.head? = some c then growL g s a b.tail else (s, none))
    else match lenN g b 1 with
      | none => (s, none)
      | some k => match s (vN c) with
        | none => growL g (s.upd (vN c) (b.take k)) a (b.drop k)
        | some t => if t = b.take k then growL g s a (b.drop k) else (s, none)
theorem grow_L {g : List Sym} : ∀ (a b : List Int) (s : Bs), growF g s a b = match growL g s a b with | (u, some []) => some u | _ => none
  | [], b, s => by
    rw [growF, growL]
    cases b <;> simp
  | c :: a, b, s => by
    rw [growF, growL]
    by_cases hb : b = []
    · simp only [if_pos hb]
    · simp only [if_neg hb]
      by_cases h0 : 0 ≤ c
      · simp only [if_pos h0]
        by_cases hh : b.head? = some c
        · simp only [if_pos hh]; exact grow_L a _ s
        · simp only [if_neg hh]
      · simp only [if_neg h0]
        cases hl : lenN g b 1 with
        | none => rfl
        | some k =>
          cases hs : s (vN c) with
          | none => exact grow_L a _ _
          | some t =>
            dsimp only
            by_cases ht : t = b.take k
            · simp only [if_pos ht]; exact grow_L a _ s
            · simp only [if_neg ht]
theorem growL_len {g : List Sym} : ∀ (a b : List Int) (s u : Bs) (q : List Int), growL g s a b = (u, some q) → q.length ≤ b.length
  | [], b, s, u, q, h => by rw [growL] at h; cases h; exact Nat.le_refl _
  | c :: a, b, s, u, q, h => by
    rw [growL] at h
    split at h
    · cases h
    · split at h
      · split at h
        · have := growL_len a _ _ _ _ h; simp at this; omega
        · cases h
      · split at h
        · cases h
        · split at h
          · have := growL_len a _ _ _ _ h; simp at this; omega
          · split at h
            · have := growL_len a _ _ _ _ h; simp at this; omega
            · cases h
abbrev bM (s : Bs) : IV := .dbox 92 0 (bsD s)
theorem l_mgrow {g : List Sym} (hg : SigOk g) (z z1 z2 : Bool) (e e1 e2 : List D) {a b : List Int} (ha : a.length ≤ 1000) (hb : b.length ≤ 1000) (hz : z2 = true → b = []) (hc : ∀ c ∈ a, -24 ≤ c) (x : Bs × Nat × Nat) (hx : x.2.1 ≤ a.length ∧ x.2.2 ≤ b.length ∧ ∀ v t, x.1 v = some t → t.length ≤ 1000) :
    evP F (Go.Ab.W F) (JW F d86 [0]) d86 [0] [1,1,0,1] [(0, bM x.1), (1, iG z g e), (3, iS z2 b e2), (9, iI x.2.2), (16, iS z1 a e1), (17, iI a.length), (18, iI x.2.1)] = some (match growL g x.1 (a.drop x.2.1) (b.drop x.2.2) with | (u, some q) => .norm [(0, bM u), (1, iG z g e), (3, iS z2 b e2), (9, iI (b.length - q.length : Nat)), (16, iS z1 a e1), (17, iI a.length), (18, iI a.length)] | (u, none) => .ret [(0, bM u), (8, iB false)]) :=
  blk_fun (F := F) (d := d86) (lk := [0]) (p := [1,1,0,1,0,0]) (p0 := [1,1,0,1]) (id := 0) (by kernel_rfl) (st := fun (x : Bs × Nat × Nat) => [(0, bM x.1), (1, iG z g e), (3, iS z2 b e2), (9, iI x.2.2), (16, iS z1 a e1), (17, iI a.length), (18, iI x.2.1)]) (I := fun x => x.2.1 ≤ a.length ∧ x.2.2 ≤ b.length ∧ ∀ v t, x.1 v = some t → t.length ≤ 1000) (μ := fun x => a.length - x.2.1)
    (res := fun x => match growL g x.1 (a.drop x.2.1) (b.drop x.2.2) with | (u, some q) => .norm [(0, bM u), (1, iG z g e), (3, iS z2 b e2), (9, iI (b.length - q.length : Nat)), (16, iS z1 a e1), (17, iI a.length), (18, iI a.length)] | (u, none) => .ret [(0, bM u), (8, iB false)])
    (fun x hx => by
      obtain ⟨s, i, j⟩ := x
      obtain ⟨hx1, hx2, hx3⟩ := hx
      dsimp only at hx1 hx2 hx3
      by_cases hi : i < a.length
      rotate_left
      · have e0 : i = a.length := by omega
        subst e0
        refine .stop (.exit 0 [(0, bM s), (1, iG z g e), (3, iS z2 b e2), (9, iI j), (16, iS z1 a e1), (17, iI a.length), (18, iI a.length)]) (wpQ_way (q86_l0a _ _ (bsD s) z (syms g) e z2 (ints b) e2 j z1 (ints a) e1 a.length a.length _) (by simp)) rfl ?_
        rw [List.drop_length, growL]
        simp only [blkO, List.length_drop]
        rw [show b.length - (b.length - j) = j by omega]; rfl
      have hci := hc _ (gi_mem hi)
      have hi' : (i : Int) < a.length := by omega
      have hat := Go.Ab.ints_at hi
      have hd := gi_drop hi
      have hw1 := wr1 hi (show a.length ≤ 9223372036854775807 by omega)
      by_cases hj : j < b.length
      rotate_left
      · have hjn : (b.length : Int) ≤ j := by omega
        refine .stop (.ret [(0, bM s), (8, iB false)]) (wpQ_way (q86_l0a _ _ (bsD s) z (syms g) e z2 (ints b) e2 j z1 (ints a) e1 a.length i _) ?_) rfl ?_
        · simp [-Bool.exists_bool, -getElem?_pos, hi', hat, ints_len, hjn]
        · rw [hd, growL, if_pos (drop_ge hj)]; rfl
      have hjn : ¬ (b.length : Int) ≤ j := by omega
      have hjn' : ¬ ((j : Int) ≥ b.length) := by omega
      have hbd : b.drop j ≠ [] := by simp; omega
      have hz2 : z2 = false := by
        cases z2 with
        | false => rfl
        | true => have := hz rfl; subst this; simp at hj
      subst hz2
      by_cases h0 : 0 ≤ gi a i
      · have hbt := Go.Ab.ints_at hj
        by_cases heq : gi b j = gi a i
        · refine .go (s, i + 1, j + 1) (wpQ_way (q86_l0a _ _ (bsD s) z (syms g) e false (ints b) e2 j z1 (ints a) e1 a.length i _) ?_) ⟨by dsimp only; omega, by dsimp only; omega, hx3⟩ (by dsimp only; omega) ?_
          · simp [-Bool.exists_bool, -getElem?_pos, -Int.natCast_add, hi', hat, ints_len, hj, hjn, h0, hbt, heq, hw1, wr1 hj (by omega)]
          · dsimp only
            rw [hd, growL, if_neg hbd, if_pos h0, gi_drop hj]
            simp [heq]
        · refine .stop (.ret [(0, bM s), (8, iB false)]) (wpQ_way (q86_l0a _ _ (bsD s) z (syms g) e false (ints b) e2 j z1 (ints a) e1 a.length i _) ?_) rfl ?_
          · simp [-Bool.exists_bool, -getElem?_pos, -Int.natCast_add, hi', hat, ints_len, hj, hjn, h0, hbt, heq]
          · rw [hd, growL, if_neg hbd, if_pos h0, gi_drop hj]
            simp [heq, blkO]
      · have hsk := w_skip hg z false e e2 (r := b) (by omega) j
        cases hl : lenN g (b.drop j) 1 with
        | none =>
          rw [skB, skV, hl] at hsk
          refine .stop (.ret [(0, bM s), (8, iB false)]) (wpQ_way (q86_l0a _ _ (bsD s) z (syms g) e false (ints b) e2 j z1 (ints a) e1 a.length i _) ?_) rfl ?_
          · simp [-Bool.exists_bool, -getElem?_pos, -Int.natCast_add, hi', hat, ints_len, hj, hjn, h0, hsk]
          · rw [hd, growL, if_neg hbd, if_neg h0, hl]; rfl
        | some k =>
          rw [skB, skV, hl] at hsk
          have hle := lenN_le hl
          simp only [List.length_drop] at hle
          have hn := w_number (gi a i)
          have hv1 : IntKind.wrap .i64 (-1 - gi a i) = (vN (gi a i) : Int) := by rw [wr _ (by omega) (by omega)]; unfold vN; omega
          rw [hv1] at hn
          have hv24 : vN (gi a i) < 24 := by unfold vN; omega
          obtain ⟨v, hv⟩ : ∃ v, v = vN (gi a i) := ⟨_, rfl⟩
          rw [← hv] at hn hv24
          have hvi : (v : Int) < 24 := by omega
          have hba := bsD_at s hv24
          have hpc : List.drop j (tkX (j + k) (ints b) e2) = ints ((b.drop j).take k) := by
            rw [tkX_ints (by omega), ints_drop, List.drop_take, Nat.add_sub_cancel_left]
          have hpc' : List.drop j (match e2 with | [] => List.take (j + k) (ints b) | x => List.take (j + k) (ints b ++ e2)) = ints ((b.drop j).take k) := hpc
          have hk1 : (j : Int) ≤ ((j + k : Nat) : Int) := by omega
          have hk2 : ((j + k : Nat) : Int) ≤ ((b.length + e2.length : Nat) : Int) := by omega
          have hk3 : ((j + k : Nat) : Int) ≤ (b.length : Int) + (e2.length : Int) := by omega
          have htl : Len ((b.drop j).take k) := by unfold Len; simp; omega
          have hvle : v + 1 ≤ 24 := hv24
          have hv23 : (v : Int) ≤ 23 := by omega
          cases hs : s v with
          | none =>
            rw [hs] at hba
            have hset := bsD_set s hv24 ((b.drop j).take k)
            have hba2 := bsD_at (s.upd v ((b.drop j).take k)) hv24
            have hu : (s.upd v ((b.drop j).take k)) v = some ((b.drop j).take k) := by simp [Bs.upd]
            rw [hu] at hba2
            have heq := w_equal htl ((b.drop j).take k) false false [] []
            rw [decide_eq_true rfl] at heq
            refine .go (s.upd v ((b.drop j).take k), i + 1, j + k) (wpQ_way (q86_l0a _ _ (bsD s) z (syms g) e false (ints b) e2 j z1 (ints a) e1 a.length i _) ?_) ⟨by dsimp only; omega, by dsimp only; omega, fun w t ht => ?_⟩ (by dsimp only; omega) ?_
            · simp [-Bool.exists_bool, -getElem?_pos, -Int.natCast_add, -List.length_take, -List.length_drop, hi', hat, ints_len, hj, hjn, h0, hsk, hn, hvi, hv23, hba, hpc, hpc', hk1, hk2, hk3, bsD_len, hvle, D.cells, setR, hset, hba2, heq, hw1]
            · simp only [Bs.upd] at ht
              split at ht
              · cases ht; simp; omega
              · exact hx3 w t ht
            · dsimp only
              rw [hd, growL, if_neg hbd, if_neg h0, hl]
              simp only [← hv, hs, List.drop_drop]
          | some t =>
            rw [hs] at hba
            have htl2 : Len t := by have := hx3 v t hs; unfold Len; omega
            have heq := w_equal htl2 ((b.drop j).take k) false false [] []
            by_cases ht : t = (b.drop j).take k
            · rw [decide_eq_true ht] at heq
              refine .go (s, i + 1, j + k) (wpQ_way (q86_l0a _ _ (bsD s) z (syms g) e false (ints b) e2 j z1 (ints a) e1 a.length i _) ?_) ⟨by dsimp only; omega, by dsimp only; omega, hx3⟩ (by dsimp only; omega) ?_
              · simp [-Bool.exists_bool, -getElem?_pos, -Int.natCast_add, -List.length_take, -List.length_drop, hi', hat, ints_len, hj, hjn, h0, hsk, hn, hvi, hv23, hba, hpc, hpc', hk1, hk2, hk3, heq, hw1]
              · dsimp only
                rw [hd, growL, if_neg hbd, if_neg h0, hl]
                simp only [← hv, hs, List.drop_drop]
                rw [if_pos ht]
            · rw [decide_eq_false ht] at heq
              refine .stop (.ret [(0, bM s), (8, iB false)]) (wpQ_way (q86_l0a _ _ (bsD s) z (syms g) e false (ints b) e2 j z1 (ints a) e1 a.length i _) ?_) rfl ?_
              · simp [-Bool.exists_bool, -getElem?_pos, -Int.natCast_add, -List.length_take, -List.length_drop, hi', hat, ints_len, hj, hjn, h0, hsk, hn, hvi, hv23, hba, hpc, hpc', hk1, hk2, hk3, heq]
              · rw [hd, growL, if_neg hbd, if_neg h0, hl]
                simp only [← hv, hs]
                rw [if_neg ht]; rfl) x hx
theorem w_mgrow {g : List Sym} (hg : SigOk g) (z z1 z2 : Bool) (e e1 e2 : List D) {a b : List Int} (ha : a.length ≤ 1000) (hb : b.length ≤ 1000) (hz : z2 = true → b = []) (hc : ∀ c ∈ a, -24 ≤ c) {s : Bs} (hs : ∀ v t, s v = some t → t.length ≤ 1000) :
    C 86 [bM s, iG z g e, iS z1 a e1, iS z2 b e2] = some (iB (growF g s a b).isSome, [bM (growL g s a b).1, iG z g e, iS z1 a e1, iS z2 b e2]) := by
  refine wfn (lk := [0]) rfl rfl (fnW_way (q86 _ _ (bsD s) z (syms g) e z1 (ints a) e1 z2 (ints b) e2 _) ?_)
  have h1 := l_mgrow hg z z1 z2 e e1 e2 ha hb hz hc (s, 0, 0) ⟨Nat.zero_le _, Nat.zero_le _, hs⟩
  dsimp only at h1
  rw [List.drop_zero, List.drop_zero] at h1
  rw [ints_len, grow_L]
  have hql := growL_len (g := g) a b s
  rcases hr : growL g s a b with ⟨u, q⟩
  rw [hr] at h1
  cases q with
  | none => exact .inl ⟨_, _, h1, rfl⟩
  | some q =>
    have hq := hql u q hr
    refine .inr ⟨_, _, _, _, _, _, _, _, _, _, _, _, _, h1, ?_⟩
    rw [ints_len]
    cases q with
    | nil => exact condW_t (by simp) rfl
    | cons x q =>
      have : ¬ ((b.length - (x :: q).length : Nat) : Int) = b.length := by simp at hq ⊢; omega
      exact condW_f (by simpa using this) rfl
end Go.Proofs.YtekdlnofmbfdgaaDoor.Ab

/- The parts of clauses, and which ones they may become: what the program's functions hand back. For every input; no condition. -/
set_option linter.unusedVariables false
set_option linter.unusedSimpArgs false
set_option maxRecDepth 100000
namespace Go.Proofs.YtekdlnofmbfdgaaDoor.Ab
open Go Go.Ab Go.Qu Go.Proofs
attribute [local simp] and_assoc
/-- A part as it lies in memory. -/
structure PtR where
  codes : Row
  cand : List (Nat × Row)
def pls (xs : List (Nat × Row)) : List D := ints (xs.map fun x => (x.1 : Int))
def ins (xs : List (Nat × Row)) : List D := rws (xs.map fun x => x.2)
def PtR.d (p : PtR) : D := .agg [.sl 1 p.codes.z (ints p.codes.l) p.codes.e, .sl 1 p.cand.isEmpty (pls p.cand) [], .sl 1 p.cand.isEmpty (ins p.cand) []]
def prts (ps : List PtR) : List D := ps.map PtR.d
abbrev iQ (ps : List PtR) (z : Bool) (e : List D) : IV := .d (.sl 3 z (prts ps) e)
abbrev pP (r : Row) (xs : List (Nat × Row)) : IV := .ptr 124 0 [.d (.sl 1 r.z (ints r.l) r.e), .own xs.isEmpty 3 1 (pls xs), .own xs.isEmpty 28 1 (ins xs)]
theorem prts_len (ps : List PtR) : (prts ps).length = ps.length := by simp [prts]
theorem pls_len (xs : List (Nat × Row)) : (pls xs).length = xs.length := by simp [pls, ints]
theorem ins_len' (xs : List (Nat × Row)) : (ins xs).length = xs.length := by simp [ins, rws]
theorem pls_app (xs : List (Nat × Row)) (i : Nat) (r : Row) : pls (xs ++ [(i, r)]) = pls xs ++ [.int .i64 (i : Int)] := by simp [pls, ints]
theorem ins_app (xs : List (Nat × Row)) (i : Nat) (r : Row) : ins (xs ++ [(i, r)]) = ins xs ++ [.sl 1 r.z (ints r.l) r.e] := by simp [ins, rws, Row.d]
structure RowM (r : Row) : Prop where
  len : r.l.length ≤ 1000
  nil : r.z = true → r.l = []
  cod : ∀ c ∈ r.l, -24 ≤ c
abbrev okN (g : List Sym) (a b : List Int) : Bool := okB g (fun _ => none) a b
theorem w_could {g : List Sym} (hg : SigOk g) (z : Bool) (e : List D) {r u : Row} (hr : RowM r) (hu : RowM u) {xs : List (Nat × Row)} (hx : xs.length ≤ 1000) (i : Nat) : C 85 [pP r xs, iG z g e, iI i, iS u.z u.l u.e] = some (.tup [], [pP r (if okN g r.l u.l = true then xs ++ [(i, u)] else xs), iG z g e, iI i, iS u.z u.l u.e]) := by
  refine wfn (lk := [0]) rfl rfl (fnW_way (q85 _ _ r.z (ints r.l) r.e xs.isEmpty (pls xs) xs.isEmpty (ins xs) z (syms g) e i u.z (ints u.l) u.e _) ?_)
  have h1 := w_mgrow hg z r.z u.z e r.e u.e hr.len hu.len hu.nil hr.cod (s := fun _ => none) (fun v t h => by cases h)
  have h0 : bM (fun _ => none) = .dbox 92 0 (List.replicate 24 (.sl 1 true [] [])) := by rw [bM, bsD_none]
  rw [h0] at h1
  refine ⟨_, _, _, _, _, h1, ?_⟩
  have hk : (growF g (fun _ => none) r.l u.l).isSome = okN g r.l u.l := rfl
  rw [hk]
  cases hb : okN g r.l u.l
  · exact condW_f rfl rfl
  · refine condW_t rfl (condW_t (by rw [pls_len]; exact decide_eq_true (by omega)) (condW_t (by rw [pls_len]; exact decide_eq_true (by omega)) (condW_t (by rw [ins_len']; exact decide_eq_true (by omega)) (condW_t (by rw [ins_len']; exact decide_eq_true (by omega)) ?_))))
    simp [pP, pls_app, ins_app]
/-- Which literals one may become. -/
def candLR (g : List Sym) (l : LitR) : List LitR → Nat → List (Nat × Row)
  | [], _ => []
  | m :: ms, n => if l.neg = m.neg ∧ okN g l.r.l m.r.l = true then (n, m.r) :: candLR g l ms (n + 1) else candLR g l ms (n + 1)
def candRR (g : List Sym) (r : Row) : List Row → Nat → List (Nat × Row)
  | [], _ => []
  | u :: us, n => if okN g r.l u.l = true then (n, u) :: candRR g r us (n + 1) else candRR g r us (n + 1)
theorem candLR_len (g : List Sym) (l : LitR) : ∀ (ms : List LitR) (n : Nat), (candLR g l ms n).length ≤ ms.length
  | [], n => Nat.le_refl _
  | m :: ms, n => by
    rw [candLR]
    have := candLR_len g l ms (n + 1)
    split <;> simp <;> omega
theorem candRR_len (g : List Sym) (l : Row) : ∀ (ms : List Row) (n : Nat), (candRR g l ms n).length ≤ ms.length
  | [], n => Nat.le_refl _
  | m :: ms, n => by
    rw [candRR]
    have := candRR_len g l ms (n + 1)
    split <;> simp <;> omega
theorem l_lits2 {g : List Sym} (hg : SigOk g) (z : Bool) (e : List D) (i1 : IV) (i14 : IV) {zp : Bool} {xp : List D} (h1e : i1 = .own zp 124 3 xp) {zl : Bool} {xl el : List D} (h14 : i14 = .d (.sl 2 zl xl el)) (n15 n16 : Int) {l : LitR} (hl : RowM l.r) {ms : List LitR} (hms : ms.length ≤ 1000) (hm : ∀ m ∈ ms, RowM m.r) (zm : Bool) (em : List D) (x : List (Nat × Row) × Nat) (hx : x.2 ≤ ms.length ∧ x.1.length ≤ x.2) :
    evP F (Go.Ab.W F) (JW F d84 []) d84 [] [1,0,1,0,0,1,1,0,0,1,1,0,1] [(0, iG z g e), (1, i1), (3, iL zm ms em), (10, .dbox 68 0 [.bool l.neg, .sl 1 l.r.z (ints l.r.l) l.r.e]), (11, pP l.r x.1), (14, i14), (15, iI n15), (16, iI n16), (23, iL zm ms em), (24, iI ms.length), (25, iI x.2)] = some (.norm [(0, iG z g e), (1, i1), (3, iL zm ms em), (10, .dbox 68 0 [.bool l.neg, .sl 1 l.r.z (ints l.r.l) l.r.e]), (11, pP l.r (x.1 ++ candLR g l (ms.drop x.2) x.2)), (14, i14), (15, iI n15), (16, iI n16), (23, iL zm ms em), (24, iI ms.length), (25, iI ms.length)]) := by
  subst h1e h14
  exact blk_fun (F := F) (d := d84) (lk := []) (p := [1,0,1,0,0,1,1,0,0,1,1,0,1,0,0]) (p0 := [1,0,1,0,0,1,1,0,0,1,1,0,1]) (id := 2) (by kernel_rfl) (st := fun (x : List (Nat × Row) × Nat) => [(0, iG z g e), (1, .own zp 124 3 xp), (3, iL zm ms em), (10, .dbox 68 0 [.bool l.neg, .sl 1 l.r.z (ints l.r.l) l.r.e]), (11, pP l.r x.1), (14, .d (.sl 2 zl xl el)), (15, iI n15), (16, iI n16), (23, iL zm ms em), (24, iI ms.length), (25, iI x.2)]) (I := fun x => x.2 ≤ ms.length ∧ x.1.length ≤ x.2) (μ := fun x => ms.length - x.2)
    (res := fun x => .norm [(0, iG z g e), (1, .own zp 124 3 xp), (3, iL zm ms em), (10, .dbox 68 0 [.bool l.neg, .sl 1 l.r.z (ints l.r.l) l.r.e]), (11, pP l.r (x.1 ++ candLR g l (ms.drop x.2) x.2)), (14, .d (.sl 2 zl xl el)), (15, iI n15), (16, iI n16), (23, iL zm ms em), (24, iI ms.length), (25, iI ms.length)])
    (fun x hx => by
      obtain ⟨xs, i⟩ := x
      obtain ⟨hx1, hx2⟩ := hx
      dsimp only at hx1 hx2
      by_cases hi : i < ms.length
      · obtain ⟨m, hm1⟩ := at_lt hi
        have hd : ms.drop i = m :: ms.drop (i + 1) := by
          rw [List.drop_eq_getElem_cons hi]
          rw [List.getElem?_eq_getElem hi] at hm1
          cases hm1; rfl
        have hc := w_could hg z e hl (hm m (List.mem_of_getElem? hm1)) (xs := xs) (by omega) i
        have hi' : (i : Int) < ms.length := by omega
        refine .go (if l.neg = m.neg ∧ okN g l.r.l m.r.l = true then xs ++ [(i, m.r)] else xs, i + 1) (wpQ_way (q84_l2a _ _ z (syms g) e zp xp zm (lits ms) em l.neg l.r.z (ints l.r.l) l.r.e l.r.z (ints l.r.l) l.r.e xs.isEmpty (pls xs) xs.isEmpty (ins xs) zl xl el n15 n16 zm (lits ms) em _ i _) ?_) ⟨by dsimp only; omega, by
            dsimp only
            split
            · simp; omega
            · omega⟩ (by dsimp only; omega) ?_
        · refine condW_t (decide_eq_true (by rw [show ((ms.length : Int)) = ms.length from rfl]; exact hi')) (condW_t (decide_eq_true (by omega)) ⟨_, _, _, _, by simpa using lits_at hm1, ?_⟩)
          have hw := wr1 hi (show ms.length ≤ 9223372036854775807 by omega)
          cases h1 : l.neg <;> cases h2 : m.neg
          · refine condW_f rfl (condW_f rfl ⟨_, _, _, _, _, _, _, _, _, _, hc, ?_⟩)
            simp [h1, h2, hw]
          · refine condW_f rfl (condW_t rfl ?_)
            simp [h1, h2, hw]
          · refine condW_t rfl (condW_f rfl ?_)
            simp [h1, h2, hw]
          · refine condW_t rfl (condW_t rfl ⟨_, _, _, _, _, _, _, _, _, _, hc, ?_⟩)
            simp [h1, h2, hw]
        · dsimp only; rw [hd, candLR]
          split <;> simp
      · have e0 : i = ms.length := by omega
        subst e0
        refine .stop (.exit 2 [(0, iG z g e), (1, .own zp 124 3 xp), (3, iL zm ms em), (10, .dbox 68 0 [.bool l.neg, .sl 1 l.r.z (ints l.r.l) l.r.e]), (11, pP l.r xs), (14, .d (.sl 2 zl xl el)), (15, iI n15), (16, iI n16), (23, iL zm ms em), (24, iI ms.length), (25, iI ms.length)]) (wpQ_way (q84_l2a _ _ z (syms g) e zp xp zm (lits ms) em l.neg l.r.z (ints l.r.l) l.r.e l.r.z (ints l.r.l) l.r.e xs.isEmpty (pls xs) xs.isEmpty (ins xs) zl xl el n15 n16 zm (lits ms) em _ _ _) (by simp)) rfl ?_
        simp [blkO, candLR]) x hx
def ptsL (g : List Sym) (ls ms : List LitR) : List PtR := ls.map fun l => ⟨l.r, candLR g l ms 0⟩
theorem prts_app (a b : List PtR) : prts (a ++ b) = prts a ++ prts b := by simp [prts]
theorem l_lits0 {g : List Sym} (hg : SigOk g) (z zl zm : Bool) (e el em : List D) {ls ms : List LitR} (hls : ls.length ≤ 1000) (hl : ∀ l ∈ ls, RowM l.r) (hms : ms.length ≤ 1000) (hm : ∀ m ∈ ms, RowM m.r) (x : List PtR × Nat) (hx : x.2 ≤ ls.length ∧ x.1.length ≤ 1000 + x.2) :
    evP F (Go.Ab.W F) (JW F d84 []) d84 [] [1,0,1] [(0, iG z g e), (1, .own x.1.isEmpty 124 3 (prts x.1)), (3, iL zm ms em), (14, iL zl ls el), (15, iI ls.length), (16, iI x.2)] = some (.norm [(0, iG z g e), (1, .own (x.1 ++ ptsL g (ls.drop x.2) ms).isEmpty 124 3 (prts (x.1 ++ ptsL g (ls.drop x.2) ms))), (3, iL zm ms em), (14, iL zl ls el), (15, iI ls.length), (16, iI ls.length)]) :=
  blk_fun (F := F) (d := d84) (lk := []) (p := [1,0,1,0,0]) (p0 := [1,0,1]) (id := 0) (by kernel_rfl) (st := fun (x : List PtR × Nat) => [(0, iG z g e), (1, .own x.1.isEmpty 124 3 (prts x.1)), (3, iL zm ms em), (14, iL zl ls el), (15, iI ls.length), (16, iI x.2)]) (I := fun x => x.2 ≤ ls.length ∧ x.1.length ≤ 1000 + x.2) (μ := fun x => ls.length - x.2)
    (res := fun x => .norm [(0, iG z g e), (1, .own (x.1 ++ ptsL g (ls.drop x.2) ms).isEmpty 124 3 (prts (x.1 ++ ptsL g (ls.drop x.2) ms))), (3, iL zm ms em), (14, iL zl ls el), (15, iI ls.length), (16, iI ls.length)])
    (fun x hx => by
      obtain ⟨ps, i⟩ := x
      obtain ⟨hx1, hx2⟩ := hx
      dsimp only at hx1 hx2
      by_cases hi : i < ls.length
      · obtain ⟨l, hl1⟩ := at_lt hi
        have hd : ls.drop i = l :: ls.drop (i + 1) := by
          rw [List.drop_eq_getElem_cons hi]
          rw [List.getElem?_eq_getElem hi] at hl1
          cases hl1; rfl
        have hin := l_lits2 hg z e (.own ps.isEmpty 124 3 (prts ps)) (iL zl ls el) rfl rfl ls.length i (hl l (List.mem_of_getElem? hl1)) hms hm zm em ([], 0) ⟨Nat.zero_le _, Nat.le_refl _⟩
        simp only [List.drop_zero, List.nil_append] at hin
        have hi' : (i : Int) < ls.length := by omega
        have hw := wr1 hi (show ls.length ≤ 9223372036854775807 by omega)
        refine .go (ps ++ [⟨l.r, candLR g l ms 0⟩], i + 1) (wpQ_way (q84_l0a _ _ z (syms g) e ps.isEmpty (prts ps) zm (lits ms) em zl (lits ls) el _ i _) ?_) ⟨by dsimp only; omega, by simp; omega⟩ (by dsimp only; omega) ?_
        · refine condW_t (decide_eq_true hi') (condW_t (decide_eq_true (by omega)) ⟨_, _, _, _, by simpa using lits_at hl1, ?_⟩)
          rw [lits_len]
          refine ⟨_, _, _, _, _, _, _, _, _, _, _, _, _, _, _, _, _, _, _, _, _, _, _, _, _, _, _, _, _, hin, ?_⟩
          refine condW_t (by rw [prts_len]; exact decide_eq_true (by omega)) (condW_t (by rw [prts_len]; exact decide_eq_true (by omega)) ?_)
          rw [hw, prts_app]
          simp [prts, PtR.d]
        · dsimp only; rw [hd]; simp [ptsL]
      · have e0 : i = ls.length := by omega
        subst e0
        refine .stop (.exit 0 [(0, iG z g e), (1, .own ps.isEmpty 124 3 (prts ps)), (3, iL zm ms em), (14, iL zl ls el), (15, iI ls.length), (16, iI ls.length)]) (wpQ_way (q84_l0a _ _ z (syms g) e ps.isEmpty (prts ps) zm (lits ms) em zl (lits ls) el _ _ _) (by simp)) rfl ?_
        simp [blkO, ptsL]) x hx
theorem w_lits {g : List Sym} (hg : SigOk g) (z zl zm : Bool) (e el em : List D) {ls ms : List LitR} (hls : ls.length ≤ 1000) (hl : ∀ l ∈ ls, RowM l.r) (hms : ms.length ≤ 1000) (hm : ∀ m ∈ ms, RowM m.r) {ps : List PtR} (hps : ps.length ≤ 1000) : C 84 [iG z g e, .own ps.isEmpty 124 3 (prts ps), iL zl ls el, iL zm ms em] = some (.own (ps ++ ptsL g ls ms).isEmpty 124 3 (prts (ps ++ ptsL g ls ms)), [iG z g e, .dead, iL zl ls el, iL zm ms em]) := by
  refine wfn (lk := []) rfl rfl (fnW_way (q84 _ _ z (syms g) e ps.isEmpty (prts ps) zl (lits ls) el zm (lits ms) em _) ?_)
  have h1 := l_lits0 hg z zl zm e el em hls hl hms hm (ps, 0) ⟨Nat.zero_le _, by dsimp only; omega⟩
  simp only [List.drop_zero] at h1
  rw [lits_len]
  exact ⟨_, _, _, _, _, _, _, _, _, _, _, _, _, h1, rfl⟩
theorem w_lits0 {g : List Sym} (hg : SigOk g) (z zl zm : Bool) (e el em : List D) {ls ms : List LitR} (hls : ls.length ≤ 1000) (hl : ∀ l ∈ ls, RowM l.r) (hms : ms.length ≤ 1000) (hm : ∀ m ∈ ms, RowM m.r) : C 84 [iG z g e, .d (.sl 3 true [] []), iL zl ls el, iL zm ms em] = some (.own (ptsL g ls ms).isEmpty 124 3 (prts (ptsL g ls ms)), [iG z g e, .d (.sl 3 true [] []), iL zl ls el, iL zm ms em]) := by
  refine wfn (lk := []) rfl rfl (fnW_way (q84v1 _ _ z (syms g) e zl (lits ls) el zm (lits ms) em _) ?_)
  have h1 := l_lits0 hg z zl zm e el em hls hl hms hm ([], 0) ⟨Nat.zero_le _, by simp⟩
  simp only [List.drop_zero, List.nil_append] at h1
  rw [lits_len]
  exact ⟨_, _, _, _, _, _, _, _, _, _, _, _, _, h1, rfl⟩
end Go.Proofs.YtekdlnofmbfdgaaDoor.Ab

/- The search for places: what the program's functions hand back. For every input; no condition. -/
set_option linter.unusedVariables false
set_option linter.unusedSimpArgs false
set_option maxRecDepth 100000
namespace Go.Proofs.YtekdlnofmbfdgaaDoor.Ab
open Go Go.Ab Go.Qu Go.Proofs
attribute [local simp] and_assoc
attribute [local irreducible] bsD
def PtR.pt (p : PtR) : Pt := ⟨p.codes.l, p.cand.map fun x => (x.1, x.2.l)⟩
structure PtOk (p : PtR) : Prop where
  codes : RowM p.codes
  cand : ∀ x ∈ p.cand, RowM x.2
  len : p.cand.length ≤ 1000
theorem ins_at {xs : List (Nat × Row)} {i : Nat} {x : Nat × Row} (h : xs[i]? = some x) : (ins xs)[i]? = some (.sl 1 x.2.z (ints x.2.l) x.2.e) := by simp [ins, rws, h, Row.d]
theorem pls_at {xs : List (Nat × Row)} {i : Nat} {x : Nat × Row} (h : xs[i]? = some x) : (pls xs)[i]? = some (.int .i64 (x.1 : Int)) := by simp [pls, ints, h]
theorem prts_at {ps : List PtR} {i : Nat} {p : PtR} (h : ps[i]? = some p) : (prts ps)[i]? = some p.d := by simp [prts, h]
def BsOk (s : Bs) : Prop := ∀ v t, s v = some t → t.length ≤ 1000
theorem grow_bound {g : List Sym} : ∀ {a b : List Int} {s u : Bs}, b.length ≤ 1000 → BsOk s → growF g s a b = some u → BsOk u
  | [], b, s, u, hb, hs, h => by
    rw [growF] at h
    split at h
    · cases h; exact hs
    · cases h
  | c :: a, b, s, u, hb, hs, h => by
    rw [growF] at h
    split at h
    · cases h
    · split at h
      · split at h
        · exact grow_bound (b := b.tail) (by simp; omega) hs h
        · cases h
      · split at h
        · cases h
        · split at h
          · refine grow_bound (by simp; omega) (fun v t e => ?_) h
            simp only [Bs.upd] at e
            split at e
            · cases e; simp; omega
            · exact hs v t e
          · split at h
            · exact grow_bound (by simp; omega) hs h
            · cases h
theorem grow_fst {g : List Sym} {s u : Bs} {a b : List Int} (h : growF g s a b = some u) : (growL g s a b).1 = u := by
  rw [grow_L] at h
  split at h
  · rename_i w e; cases h; rw [e]
  · cases h
theorem w_mgrow' {g : List Sym} (hg : SigOk g) (z : Bool) (e : List D) {r u : Row} (hr : RowM r) (hu : RowM u) {s : Bs} (hs : BsOk s) :
    C 86 [bM s, iG z g e, iS r.z r.l r.e, iS u.z u.l u.e] = some (iB (okB g s r.l u.l), [bM (growL g s r.l u.l).1, iG z g e, iS r.z r.l r.e, iS u.z u.l u.e]) :=
  w_mgrow hg z r.z u.z e r.e u.e hr.len hu.len hu.nil hr.cod hs
/-- How many of them fail ahead of the first that does not. -/
def fails {α : Type} (q : α → Bool) : List α → Nat
  | [] => 0
  | x :: xs => if q x = true then 0 else fails q xs + 1
theorem l_open2 {g : List Sym} (hg : SigOk g) (z zp : Bool) (e ep : List D) {ps : List PtR} (n14 : Int) {k : Nat} {p : PtR} (hp : ps[k]? = some p) (hok : PtOk p) {s : Bs} (hs : BsOk s) (x : Nat) (hx : x ≤ p.cand.length) :
    evP F (Go.Ab.W F) (JW F d52 []) d52 [] [1,0,1,0,0,1,1,0,0,1,1,0,1] [(0, iG z g e), (1, iQ ps zp ep), (5, bM s), (7, iI k), (8, iB false), (13, iI n14), (14, iI k), (21, .d (.sl 1 p.cand.isEmpty (ins p.cand) [])), (22, iI p.cand.length), (23, iI x)] = some (.norm [(0, iG z g e), (1, iQ ps zp ep), (5, bM s), (7, iI k), (8, iB ((p.cand.drop x).any fun c => okB g s p.codes.l c.2.l)), (13, iI n14), (14, iI k), (21, .d (.sl 1 p.cand.isEmpty (ins p.cand) [])), (22, iI p.cand.length), (23, iI (x + fails (fun c : Nat × Row => okB g s p.codes.l c.2.l) (p.cand.drop x) : Nat))]) :=
  blk_fun (F := F) (d := d52) (lk := []) (p := [1,0,1,0,0,1,1,0,0,1,1,0,1,0,0]) (p0 := [1,0,1,0,0,1,1,0,0,1,1,0,1]) (id := 2) (by kernel_rfl) (st := fun (x : Nat) => [(0, iG z g e), (1, iQ ps zp ep), (5, bM s), (7, iI k), (8, iB false), (13, iI n14), (14, iI k), (21, .d (.sl 1 p.cand.isEmpty (ins p.cand) [])), (22, iI p.cand.length), (23, iI x)]) (I := fun x => x ≤ p.cand.length) (μ := fun x => p.cand.length - x)
    (res := fun x => .norm [(0, iG z g e), (1, iQ ps zp ep), (5, bM s), (7, iI k), (8, iB ((p.cand.drop x).any fun c => okB g s p.codes.l c.2.l)), (13, iI n14), (14, iI k), (21, .d (.sl 1 p.cand.isEmpty (ins p.cand) [])), (22, iI p.cand.length), (23, iI (x + fails (fun c : Nat × Row => okB g s p.codes.l c.2.l) (p.cand.drop x) : Nat))])
    (fun i hi => by
      have hn := hok.len
      by_cases h : i < p.cand.length
      · obtain ⟨c, hc⟩ := at_lt h
        have hd : p.cand.drop i = c :: p.cand.drop (i + 1) := by
          rw [List.drop_eq_getElem_cons h]
          rw [List.getElem?_eq_getElem h] at hc
          cases hc; rfl
        have hwid : (D.width (.agg (bsD s)) == 24) = true := by rw [bsD_width]; rfl
        have hw := w_mgrow' hg z e hok.codes (hok.cand c (List.mem_of_getElem? hc)) hs
        have hi' : (i : Int) < p.cand.length := by omega
        have hwr := wr1 h (show p.cand.length ≤ 9223372036854775807 by omega)
        cases hb : okB g s p.codes.l c.2.l
        · rw [hb] at hw
          refine .go (i + 1) (wpQ_way (q52_l2a _ _ z (syms g) e zp (prts ps) ep (bsD s) k false n14 k p.cand.isEmpty (ins p.cand) [] p.cand.length i _) ?_) h (by omega) ?_
          · refine condW_t (decide_eq_true hi') ?_
            refine condW_t (decide_eq_true (by omega)) ?_
            refine ⟨_, _, _, ins_at hc, ?_⟩
            rw [bsD_len s]
            refine condW_t rfl ?_
            refine condW_t hwid ?_
            refine condW_t (decide_eq_true (by omega)) ?_
            refine ⟨_, _, _, _, _, _, _, _, _, prts_at hp, ?_⟩
            refine ⟨_, _, _, _, _, hw, ?_⟩
            refine condW_f rfl ?_
            rw [hwr]
          · rw [hd]; simp [hb, fails]; omega
        · rw [hb] at hw
          refine .stop (.exit 2 [(0, iG z g e), (1, iQ ps zp ep), (5, bM s), (7, iI k), (8, iB true), (13, iI n14), (14, iI k), (21, .d (.sl 1 p.cand.isEmpty (ins p.cand) [])), (22, iI p.cand.length), (23, iI i)]) (wpQ_way (q52_l2a _ _ z (syms g) e zp (prts ps) ep (bsD s) k false n14 k p.cand.isEmpty (ins p.cand) [] p.cand.length i _) ?_) rfl ?_
          · refine condW_t (decide_eq_true hi') ?_
            refine condW_t (decide_eq_true (by omega)) ?_
            refine ⟨_, _, _, ins_at hc, ?_⟩
            rw [bsD_len s]
            refine condW_t rfl ?_
            refine condW_t hwid ?_
            refine condW_t (decide_eq_true (by omega)) ?_
            refine ⟨_, _, _, _, _, _, _, _, _, prts_at hp, ?_⟩
            refine ⟨_, _, _, _, _, hw, ?_⟩
            exact condW_t rfl rfl
          · rw [hd]; simp [hb, fails, blkO]
      · have e0 : i = p.cand.length := by omega
        subst e0
        refine .stop (.exit 2 [(0, iG z g e), (1, iQ ps zp ep), (5, bM s), (7, iI k), (8, iB false), (13, iI n14), (14, iI k), (21, .d (.sl 1 p.cand.isEmpty (ins p.cand) [])), (22, iI p.cand.length), (23, iI p.cand.length)]) (wpQ_way (q52_l2a _ _ z (syms g) e zp (prts ps) ep (bsD s) k false n14 k p.cand.isEmpty (ins p.cand) [] p.cand.length _ _) (by simp)) rfl ?_
        simp [blkO, fails]) x hx
theorem pt_any (g : List Sym) (s : Bs) (p : PtR) : (p.pt.cand.any fun x => okB g s p.pt.codes x.2) = p.cand.any fun c => okB g s p.codes.l c.2.l := by
  simp [PtR.pt, List.any_map, Function.comp_def]
theorem w_open {g : List Sym} (hg : SigOk g) (z zp : Bool) (e ep : List D) {ps : List PtR} (hn : ps.length ≤ 1000) (hok : ∀ p ∈ ps, PtOk p) {s : Bs} (hs : BsOk s) : C 52 [iG z g e, iQ ps zp ep, .d (.agg (bsD s))] = some (iB (openF g s (ps.map PtR.pt)), [iG z g e, iQ ps zp ep, .d (.agg (bsD s))]) := by
  refine wfn (lk := []) rfl rfl (fnW_way (q52 _ _ z (syms g) e zp (prts ps) ep (bsD s) _) ?_)
  have h2 := blk_all (F := F) (d := d52) (lk := []) (p := [1,0,1,0,0]) (p0 := [1,0,1]) (by kernel_rfl) (n := ps.length) (id := 0) (st := fun i => [(0, iG z g e), (1, iQ ps zp ep), (5, bM s), (13, iI ps.length), (14, iI i)]) (q := fun i => match ps[i]? with | some p => p.cand.any fun c => okB g s p.codes.l c.2.l | none => true) (rt := [(6, iB false)]) (e := [(0, iG z g e), (1, iQ ps zp ep), (5, bM s), (13, iI ps.length), (14, iI ps.length)])
    (fun i hi hq => by
      obtain ⟨p, hp⟩ := at_lt hi
      rw [hp] at hq
      dsimp only at hq
      have hin := l_open2 hg z zp e ep ps.length hp (hok p (List.mem_of_getElem? hp)) hs 0 (Nat.zero_le _)
      rw [List.drop_zero, hq] at hin
      have hi' : (i : Int) < ps.length := by omega
      refine wpQ_way (q52_l0a _ _ z (syms g) e zp (prts ps) ep (bsD s) _ i _) ?_
      refine condW_t (decide_eq_true hi') (condW_t (decide_eq_true (by omega)) ⟨_, _, _, _, _, _, _, _, _, by simpa [PtR.d] using prts_at hp, ?_⟩)
      rw [ins_len']
      refine ⟨_, _, _, _, _, _, _, _, _, _, _, _, _, _, _, _, hin, condW_t rfl ?_⟩
      rw [wr1 hi (by omega)])
    (fun i hi hq => by
      obtain ⟨p, hp⟩ := at_lt hi
      rw [hp] at hq
      dsimp only at hq
      have hin := l_open2 hg z zp e ep ps.length hp (hok p (List.mem_of_getElem? hp)) hs 0 (Nat.zero_le _)
      rw [List.drop_zero, hq] at hin
      have hi' : (i : Int) < ps.length := by omega
      refine wpQ_way (q52_l0a _ _ z (syms g) e zp (prts ps) ep (bsD s) _ i _) ?_
      refine condW_t (decide_eq_true hi') (condW_t (decide_eq_true (by omega)) ⟨_, _, _, _, _, _, _, _, _, by simpa [PtR.d] using prts_at hp, ?_⟩)
      rw [ins_len']
      exact ⟨_, _, _, _, _, _, _, _, _, _, _, _, _, _, _, _, hin, condW_f rfl rfl⟩)
    (wpQ_way (q52_l0a _ _ z (syms g) e zp (prts ps) ep (bsD s) _ ps.length _) (by simp)) 0 (Nat.zero_le _)
  rw [prts_len]
  have hop : openF g s (ps.map PtR.pt) = ps.all fun p => p.cand.any fun c => okB g s p.codes.l c.2.l := by
    unfold openF
    rw [List.all_map]
    congr 1
    funext p
    exact pt_any g s p
  rw [hop]
  rcases h2 with ⟨h3, h4⟩ | ⟨⟨j, _, hj, hq⟩, h4⟩
  · have : (ps.all fun p => p.cand.any fun c => okB g s p.codes.l c.2.l) = true := by
      rw [List.all_eq_true]
      intro p hp
      obtain ⟨i, hi, rfl⟩ := List.getElem_of_mem hp
      have := h3 i (Nat.zero_le _) hi
      rw [List.getElem?_eq_getElem hi] at this
      exact this
    rw [this]
    exact .inr ⟨_, _, _, _, _, _, _, _, _, h4, rfl⟩
  · have : (ps.all fun p => p.cand.any fun c => okB g s p.codes.l c.2.l) = false := by
      rw [List.all_eq_false]
      refine ⟨ps[j], List.getElem_mem hj, ?_⟩
      rw [List.getElem?_eq_getElem hj] at hq
      simpa using hq
    rw [this]
    exact .inl ⟨_, h4, rfl⟩
/-! ### The search -/
def rI (r : List Nat) : List Int := r.map fun (n : Nat) => (n : Int)
def fRes (o : Option (List Nat)) : IV := match o with
  | some r => .tup [.own r.isEmpty 3 1 (ints (rI r)), iB true]
  | none => .tup [.own true 3 1 [], iB false]
theorem try_len {g : List Sym} : ∀ {ps : List Pt} {s : Bs} {r : List Nat}, findF g ps s = some r → r.length = ps.length := by
  have key : ∀ (ps : List Pt), (∀ s r, findF g ps s = some r → r.length = ps.length) → ∀ (a : List Int) (s : Bs) (xs : List (Nat × List Int)) (r : List Nat), tryF g a ps s xs = some r → r.length = ps.length + 1 := by
    intro ps hps a s xs
    induction xs with
    | nil => intro r h; simp [tryF] at h
    | cons x xs ih =>
      intro r h
      rw [tryF] at h
      split at h
      · exact ih r h
      · split at h
        · rename_i u _ r' hr
          cases h
          simp [hps _ _ hr]
        · exact ih r h
  intro ps
  induction ps with
  | nil => intro s r h; rw [findF] at h; cases h; rfl
  | cons p ps ih =>
    intro s r h
    rw [findF] at h
    rw [key ps (fun s r h => ih h) _ _ _ _ h]; rfl
theorem w_find' {g : List Sym} (hg : SigOk g) (z : Bool) (e : List D) : ∀ (ps : List PtR) (zp : Bool) (ep : List D) (s : Bs), ps.length ≤ 1000 → (∀ p ∈ ps, PtOk p) → BsOk s → C 53 [iG z g e, iQ ps zp ep, .d (.agg (bsD s))] = some (fRes (findF g (ps.map PtR.pt) s), [iG z g e, iQ ps zp ep, .d (.agg (bsD s))]) := by
  intro ps
  induction ps with
  | nil =>
    intro zp ep s _ _ _
    refine wfn (lk := []) rfl rfl (fnW_way (q53 _ _ z (syms g) e zp (prts []) ep (bsD s) _) ?_)
    exact condW_t rfl (by rw [List.map_nil, findF]; rfl)
  | cons p ps ih =>
    intro zp ep s hn hok hs
    have hn' : ps.length + 1 ≤ 1000 := by simpa using hn
    refine wfn (lk := []) rfl rfl (fnW_way (q53 _ _ z (syms g) e zp (prts (p :: ps)) ep (bsD s) _) ?_)
    have hpok := hok p (by simp)
    have hps : ∀ q ∈ ps, PtOk q := fun q hq => hok q (by simp [hq])
    have hcn := hpok.len
    have h0 : (prts (p :: ps))[0]? = some p.d := rfl
    have hdrop : (prts (p :: ps)).drop (Int.toNat 1) = prts ps := rfl
    have hlen1 : (1 : Int) ≤ ((prts (p :: ps)).length : Int) := by rw [prts_len]; simp; omega
    have hl := blk_fun (F := F) (d := d53) (lk := []) (p := [1,1,0,1,0,0]) (p0 := [1,1,0,1]) (id := 0) (by kernel_rfl) (st := fun (i : Nat) => [(0, iG z g e), (1, iQ (p :: ps) zp ep), (5, bM s), (19, .d (.sl 1 p.cand.isEmpty (ins p.cand) [])), (20, iI p.cand.length), (21, iI i)]) (I := fun i => i ≤ p.cand.length) (μ := fun i => p.cand.length - i)
      (res := fun i => match tryF g p.codes.l (ps.map PtR.pt) s ((p.cand.drop i).map fun x => (x.1, x.2.l)) with | some r => .ret [(6, .own false 3 1 (ints (rI r))), (7, iB true)] | none => .norm [(0, iG z g e), (1, iQ (p :: ps) zp ep), (5, bM s), (19, .d (.sl 1 p.cand.isEmpty (ins p.cand) [])), (20, iI p.cand.length), (21, iI p.cand.length)])
      (fun i hi => by
        by_cases h : i < p.cand.length
        · obtain ⟨c, hc⟩ := at_lt h
          have hd : p.cand.drop i = c :: p.cand.drop (i + 1) := by
            rw [List.drop_eq_getElem_cons h]
            rw [List.getElem?_eq_getElem h] at hc
            cases hc; rfl
          have hwid : (D.width (.agg (bsD s)) == 24) = true := by rw [bsD_width]; rfl
          have hcok := hpok.cand c (List.mem_of_getElem? hc)
          have hw := w_mgrow' hg z e hpok.codes hcok hs
          have hi' : (i : Int) < p.cand.length := by omega
          have hwr := wr1 h (show p.cand.length ≤ 9223372036854775807 by omega)
          cases hb : growF g s p.codes.l c.2.l with
          | none =>
            have hob : okB g s p.codes.l c.2.l = false := by unfold okB; rw [hb]; rfl
            rw [hob] at hw
            refine .go (i + 1) (wpQ_way (q53_l0a _ _ z (syms g) e zp (prts (p :: ps)) ep (bsD s) p.cand.isEmpty (ins p.cand) [] p.cand.length i _) ?_) h (by omega) ?_
            · refine condW_t (decide_eq_true hi') ?_
              refine condW_t (decide_eq_true (by omega)) ?_
              refine ⟨_, _, _, ins_at hc, ?_⟩
              rw [bsD_len s]
              refine condW_t rfl ?_
              refine condW_t hwid ?_
              refine ⟨_, _, _, _, _, _, _, _, _, h0, ?_⟩
              refine ⟨_, _, _, _, _, hw, ?_⟩
              refine condW_f rfl ?_
              rw [hwr]
            · rw [hd, List.map_cons, tryF, hb]
          | some u =>
            have hob : okB g s p.codes.l c.2.l = true := by unfold okB; rw [hb]; rfl
            rw [hob, grow_fst hb] at hw
            have hu := grow_bound hcok.len hs hb
            have hopen := w_open hg z zp e [] (ps := ps) (by omega) hps hu
            have hfind := ih zp [] u (by omega) hps hu
            cases ho : openF g u (ps.map PtR.pt)
            · rw [ho] at hopen
              refine .go (i + 1) (wpQ_way (q53_l0a _ _ z (syms g) e zp (prts (p :: ps)) ep (bsD s) p.cand.isEmpty (ins p.cand) [] p.cand.length i _) ?_) h (by omega) ?_
              · refine condW_t (decide_eq_true hi') ?_
                refine condW_t (decide_eq_true (by omega)) ?_
                refine ⟨_, _, _, ins_at hc, ?_⟩
                rw [bsD_len s]
                refine condW_t rfl ?_
                refine condW_t hwid ?_
                refine ⟨_, _, _, _, _, _, _, _, _, h0, ?_⟩
                refine ⟨_, _, _, _, _, hw, ?_⟩
                refine condW_t rfl ?_
                refine condW_t (decide_eq_true hlen1) ?_
                rw [bsD_len u]
                refine condW_t rfl ?_
                refine ⟨_, _, _, _, hopen, ?_⟩
                refine condW_f rfl ?_
                rw [hwr]
              · rw [hd, List.map_cons, tryF, hb]; simp only [open_none ho]
            · rw [ho] at hopen
              cases hf : findF g (ps.map PtR.pt) u with
              | none =>
                rw [hf] at hfind
                refine .go (i + 1) (wpQ_way (q53_l0a _ _ z (syms g) e zp (prts (p :: ps)) ep (bsD s) p.cand.isEmpty (ins p.cand) [] p.cand.length i _) ?_) h (by omega) ?_
                · refine condW_t (decide_eq_true hi') ?_
                  refine condW_t (decide_eq_true (by omega)) ?_
                  refine ⟨_, _, _, ins_at hc, ?_⟩
                  rw [bsD_len s]
                  refine condW_t rfl ?_
                  refine condW_t hwid ?_
                  refine ⟨_, _, _, _, _, _, _, _, _, h0, ?_⟩
                  refine ⟨_, _, _, _, _, hw, ?_⟩
                  refine condW_t rfl ?_
                  refine condW_t (decide_eq_true hlen1) ?_
                  rw [bsD_len u]
                  refine condW_t rfl ?_
                  refine ⟨_, _, _, _, hopen, ?_⟩
                  refine condW_t rfl ?_
                  refine condW_t (decide_eq_true hlen1) ?_
                  refine condW_t rfl ?_
                  refine ⟨_, _, _, _, _, _, hfind, ?_⟩
                  refine condW_f rfl ?_
                  rw [hwr]
                · rw [hd, List.map_cons, tryF, hb]; simp only [hf]
              | some r =>
                rw [hf] at hfind
                have hrl := try_len hf
                rw [List.length_map] at hrl
                refine .stop (.ret [(6, .own false 3 1 (ints (rI (c.1 :: r)))), (7, iB true)]) (wpQ_way (q53_l0a _ _ z (syms g) e zp (prts (p :: ps)) ep (bsD s) p.cand.isEmpty (ins p.cand) [] p.cand.length i _) ?_) rfl ?_
                · have hil : (ints (rI r)).length = r.length := by simp [ints, rI]
                  refine condW_t (decide_eq_true hi') ?_
                  refine condW_t (decide_eq_true (by omega)) ?_
                  refine ⟨_, _, _, ins_at hc, ?_⟩
                  rw [bsD_len s]
                  refine condW_t rfl ?_
                  refine condW_t hwid ?_
                  refine ⟨_, _, _, _, _, _, _, _, _, h0, ?_⟩
                  refine ⟨_, _, _, _, _, hw, ?_⟩
                  refine condW_t rfl ?_
                  refine condW_t (decide_eq_true hlen1) ?_
                  rw [bsD_len u]
                  refine condW_t rfl ?_
                  refine ⟨_, _, _, _, hopen, ?_⟩
                  refine condW_t rfl ?_
                  refine condW_t (decide_eq_true hlen1) ?_
                  refine condW_t rfl ?_
                  refine ⟨_, _, _, _, _, _, hfind, ?_⟩
                  refine condW_t rfl ?_
                  refine ⟨_, _, _, _, _, _, _, _, _, h0, ?_⟩
                  refine condW_t (decide_eq_true (by omega)) ?_
                  refine ⟨_, pls_at hc, ?_⟩
                  refine condW_t (decide_eq_true (by rw [hil]; omega)) ?_
                  refine condW_t (decide_eq_true (by rw [hil]; omega)) ?_
                  rfl
                · rw [hd, List.map_cons, tryF, hb]; simp only [hf]; rfl
        · have e0 : i = p.cand.length := by omega
          subst e0
          refine .stop (.exit 0 [(0, iG z g e), (1, iQ (p :: ps) zp ep), (5, bM s), (19, .d (.sl 1 p.cand.isEmpty (ins p.cand) [])), (20, iI p.cand.length), (21, iI p.cand.length)]) (wpQ_way (q53_l0a _ _ z (syms g) e zp (prts (p :: ps)) ep (bsD s) p.cand.isEmpty (ins p.cand) [] p.cand.length _ _) (by simp)) rfl ?_
          rw [List.drop_length, List.map_nil, tryF]; rfl) 0 (Nat.zero_le _)
    rw [List.drop_zero] at hl
    rw [List.map_cons, findF]
    have hpt : tryF g p.pt.codes (ps.map PtR.pt) s p.pt.cand = tryF g p.codes.l (ps.map PtR.pt) s (p.cand.map fun x => (x.1, x.2.l)) := rfl
    rw [hpt]
    refine condW_f (by rw [prts_len]; simp; omega) ⟨_, _, _, _, _, _, _, _, _, h0, ?_⟩
    rw [ins_len']
    cases ht : tryF g p.codes.l (ps.map PtR.pt) s (p.cand.map fun x => (x.1, x.2.l)) with
    | none =>
      rw [ht] at hl
      exact .inr ⟨_, _, _, _, _, _, _, _, _, _, _, _, hl, rfl⟩
    | some r =>
      rw [ht] at hl
      refine .inl ⟨_, _, _, hl, ?_⟩
      have : r ≠ [] := by
        rintro rfl
        have h1 : findF g ((p :: ps).map PtR.pt) s = some [] := by rw [List.map_cons, findF]; exact ht
        have := try_len h1
        simp at this
      have hre : r.isEmpty = false := by cases r <;> simp at this ⊢
      simp only [fRes, hre]
end Go.Proofs.YtekdlnofmbfdgaaDoor.Ab
