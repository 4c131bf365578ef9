/- The search for places: what the program's functions hand back. For every input; no condition. -/
import Derived.Test.YtekdlnofmbfdgaaDoorSubsumeNormal0
import Derived.Test.YtekdlnofmbfdgaaDoorSubsumeNormal1
import Derived.Test.YtekdlnofmbfdgaaDoorSubsumeNormal2
import Derived.Test.YtekdlnofmbfdgaaDoorSubsumeNormal3
import Derived.Test.YtekdlnofmbfdgaaDoorSubsumeNormal4
import Derived.Test.YtekdlnofmbfdgaaDoorSubsumeNormal5
import Derived.Test.YtekdlnofmbfdgaaDoorSubsumeNormal6
import Derived.Test.YtekdlnofmbfdgaaDoorSubsumeNormal7
import Derived.Test.YtekdlnofmbfdgaaDoorSubsumeNormal8
import Derived.Test.YtekdlnofmbfdgaaDoorSubsumeNormal9
import Derived.Test.YtekdlnofmbfdgaaDoorSubsumeNormal10
import Derived.Test.YtekdlnofmbfdgaaDoorSubsumeNormal11
import Derived.Test.YtekdlnofmbfdgaaDoorSubsumeNormal12
import Derived.Test.YtekdlnofmbfdgaaDoorSubsumeNormal13
set_option linter.unusedVariables false
set_option linter.unusedSimpArgs false
set_option maxRecDepth 100000
namespace Go.Proofs.YtekdlnofmbfdgaaDoor.Ab
open Go Go.Ab Go.Qu Go.Proofs
attribute [local simp] and_assoc
attribute [local irreducible] bsD
def PtR.pt (p : PtR) : Pt := ⟨p.codes.l, p.cand.map fun x => (x.1, x.2.l)⟩
structure PtOk (p : PtR) : Prop where
  codes : RowM p.codes
  cand : ∀ x ∈ p.cand, RowM x.2
  len : p.cand.length ≤ 1000
theorem ins_at {xs : List (Nat × Row)} {i : Nat} {x : Nat × Row} (h : xs[i]? = some x) : (ins xs)[i]? = some (.sl 1 x.2.z (ints x.2.l) x.2.e) := by simp [ins, rws, h, Row.d]
theorem pls_at {xs : List (Nat × Row)} {i : Nat} {x : Nat × Row} (h : xs[i]? = some x) : (pls xs)[i]? = some (.int .i64 (x.1 : Int)) := by simp [pls, ints, h]
theorem prts_at {ps : List PtR} {i : Nat} {p : PtR} (h : ps[i]? = some p) : (prts ps)[i]? = some p.d := by simp [prts, h]
def BsOk (s : Bs) : Prop := ∀ v t, s v = some t → t.length ≤ 1000
theorem grow_bound {g : List Sym} : ∀ {a b : List Int} {s u : Bs}, b.length ≤ 1000 → BsOk s → growF g s a b = some u → BsOk u
  | [], b, s, u, hb, hs, h => by
    rw [growF] at h
    split at h
    · cases h; exact hs
    · cases h
  | c :: a, b, s, u, hb, hs, h => by
    rw [growF] at h
    split at h
    · cases h
    · split at h
      · split at h
        · exact grow_bound (b := b.tail) (by simp; omega) hs h
        · cases h
      · split at h
        · cases h
        · split at h
          · refine grow_bound (by simp; omega) (fun v t e => ?_) h
            simp only [Bs.upd] at e
            split at e
            · cases e; simp; omega
            · exact hs v t e
          · split at h
            · exact grow_bound (by simp; omega) hs h
            · cases h
theorem grow_fst {g : List Sym} {s u : Bs} {a b : List Int} (h : growF g s a b = some u) : (growL g s a b).1 = u := by
  rw [grow_L] at h
  split at h
  · rename_i w e; cases h; rw [e]
  · cases h
theorem w_mgrow' {g : List Sym} (hg : SigOk g) (z : Bool) (e : List D) {r u : Row} (hr : RowM r) (hu : RowM u) {s : Bs} (hs : BsOk s) :
    C 86 [bM s, iG z g e, iS r.z r.l r.e, iS u.z u.l u.e] = some (iB (okB g s r.l u.l), [bM (growL g s r.l u.l).1, iG z g e, iS r.z r.l r.e, iS u.z u.l u.e]) :=
  w_mgrow hg z r.z u.z e r.e u.e hr.len hu.len hu.nil hr.cod hs
/-- How many of them fail ahead of the first that does not. -/
def fails {α : Type} (q : α → Bool) : List α → Nat
  | [] => 0
  | x :: xs => if q x = true then 0 else fails q xs + 1
theorem l_open2 {g : List Sym} (hg : SigOk g) (z zp : Bool) (e ep : List D) {ps : List PtR} (n14 : Int) {k : Nat} {p : PtR} (hp : ps[k]? = some p) (hok : PtOk p) {s : Bs} (hs : BsOk s) (x : Nat) (hx : x ≤ p.cand.length) :
    evP F (Go.Ab.W F) (JW F d52 []) d52 [] [1,0,1,0,0,1,1,0,0,1,1,0,1] [(0, iG z g e), (1, iQ ps zp ep), (5, bM s), (7, iI k), (8, iB false), (13, iI n14), (14, iI k), (21, .d (.sl 1 p.cand.isEmpty (ins p.cand) [])), (22, iI p.cand.length), (23, iI x)] = some (.norm [(0, iG z g e), (1, iQ ps zp ep), (5, bM s), (7, iI k), (8, iB ((p.cand.drop x).any fun c => okB g s p.codes.l c.2.l)), (13, iI n14), (14, iI k), (21, .d (.sl 1 p.cand.isEmpty (ins p.cand) [])), (22, iI p.cand.length), (23, iI (x + fails (fun c : Nat × Row => okB g s p.codes.l c.2.l) (p.cand.drop x) : Nat))]) :=
  blk_fun (F := F) (d := d52) (lk := []) (p := [1,0,1,0,0,1,1,0,0,1,1,0,1,0,0]) (p0 := [1,0,1,0,0,1,1,0,0,1,1,0,1]) (id := 2) (by kernel_rfl) (st := fun (x : Nat) => [(0, iG z g e), (1, iQ ps zp ep), (5, bM s), (7, iI k), (8, iB false), (13, iI n14), (14, iI k), (21, .d (.sl 1 p.cand.isEmpty (ins p.cand) [])), (22, iI p.cand.length), (23, iI x)]) (I := fun x => x ≤ p.cand.length) (μ := fun x => p.cand.length - x)
    (res := fun x => .norm [(0, iG z g e), (1, iQ ps zp ep), (5, bM s), (7, iI k), (8, iB ((p.cand.drop x).any fun c => okB g s p.codes.l c.2.l)), (13, iI n14), (14, iI k), (21, .d (.sl 1 p.cand.isEmpty (ins p.cand) [])), (22, iI p.cand.length), (23, iI (x + fails (fun c : Nat × Row => okB g s p.codes.l c.2.l) (p.cand.drop x) : Nat))])
    (fun i hi => by
      have hn := hok.len
      by_cases h : i < p.cand.length
      · obtain ⟨c, hc⟩ := at_lt h
        have hd : p.cand.drop i = c :: p.cand.drop (i + 1) := by
          rw [List.drop_eq_getElem_cons h]
          rw [List.getElem?_eq_getElem h] at hc
          cases hc; rfl
        have hwid : (D.width (.agg (bsD s)) == 24) = true := by rw [bsD_width]; rfl
        have hw := w_mgrow' hg z e hok.codes (hok.cand c (List.mem_of_getElem? hc)) hs
        have hi' : (i : Int) < p.cand.length := by omega
        have hwr := wr1 h (show p.cand.length ≤ 9223372036854775807 by omega)
        cases hb : okB g s p.codes.l c.2.l
        · rw [hb] at hw
          refine .go (i + 1) (wpQ_way (q52_l2a _ _ z (syms g) e zp (prts ps) ep (bsD s) k false n14 k p.cand.isEmpty (ins p.cand) [] p.cand.length i _) ?_) h (by omega) ?_
          · refine condW_t (decide_eq_true hi') ?_
            refine condW_t (decide_eq_true (by omega)) ?_
            refine ⟨_, _, _, ins_at hc, ?_⟩
            rw [bsD_len s]
            refine condW_t rfl ?_
            refine condW_t hwid ?_
            refine condW_t (decide_eq_true (by omega)) ?_
            refine ⟨_, _, _, _, _, _, _, _, _, prts_at hp, ?_⟩
            refine ⟨_, _, _, _, _, hw, ?_⟩
            refine condW_f rfl ?_
            rw [hwr]
          · rw [hd]; simp [hb, fails]; omega
        · rw [hb] at hw
          refine .stop (.exit 2 [(0, iG z g e), (1, iQ ps zp ep), (5, bM s), (7, iI k), (8, iB true), (13, iI n14), (14, iI k), (21, .d (.sl 1 p.cand.isEmpty (ins p.cand) [])), (22, iI p.cand.length), (23, iI i)]) (wpQ_way (q52_l2a _ _ z (syms g) e zp (prts ps) ep (bsD s) k false n14 k p.cand.isEmpty (ins p.cand) [] p.cand.length i _) ?_) rfl ?_
          · refine condW_t (decide_eq_true hi') ?_
            refine condW_t (decide_eq_true (by omega)) ?_
            refine ⟨_, _, _, ins_at hc, ?_⟩
            rw [bsD_len s]
            refine condW_t rfl ?_
            refine condW_t hwid ?_
            refine condW_t (decide_eq_true (by omega)) ?_
            refine ⟨_, _, _, _, _, _, _, _, _, prts_at hp, ?_⟩
            refine ⟨_, _, _, _, _, hw, ?_⟩
            exact condW_t rfl rfl
          · rw [hd]; simp [hb, fails, blkO]
      · have e0 : i = p.cand.length := by omega
        subst e0
        refine .stop (.exit 2 [(0, iG z g e), (1, iQ ps zp ep), (5, bM s), (7, iI k), (8, iB false), (13, iI n14), (14, iI k), (21, .d (.sl 1 p.cand.isEmpty (ins p.cand) [])), (22, iI p.cand.length), (23, iI p.cand.length)]) (wpQ_way (q52_l2a _ _ z (syms g) e zp (prts ps) ep (bsD s) k false n14 k p.cand.isEmpty (ins p.cand) [] p.cand.length _ _) (by simp)) rfl ?_
        simp [blkO, fails]) x hx
theorem pt_any (g : List Sym) (s : Bs) (p : PtR) : (p.pt.cand.any fun x => okB g s p.pt.codes x.2) = p.cand.any fun c => okB g s p.codes.l c.2.l := by
  simp [PtR.pt, List.any_map, Function.comp_def]
theorem w_open {g : List Sym} (hg : SigOk g) (z zp : Bool) (e ep : List D) {ps : List PtR} (hn : ps.length ≤ 1000) (hok : ∀ p ∈ ps, PtOk p) {s : Bs} (hs : BsOk s) : C 52 [iG z g e, iQ ps zp ep, .d (.agg (bsD s))] = some (iB (openF g s (ps.map PtR.pt)), [iG z g e, iQ ps zp ep, .d (.agg (bsD s))]) := by
  refine wfn (lk := []) rfl rfl (fnW_way (q52 _ _ z (syms g) e zp (prts ps) ep (bsD s) _) ?_)
  have h2 := blk_all (F := F) (d := d52) (lk := []) (p := [1,0,1,0,0]) (p0 := [1,0,1]) (by kernel_rfl) (n := ps.length) (id := 0) (st := fun i => [(0, iG z g e), (1, iQ ps zp ep), (5, bM s), (13, iI ps.length), (14, iI i)]) (q := fun i => match ps[i]? with | some p => p.cand.any fun c => okB g s p.codes.l c.2.l | none => true) (rt := [(6, iB false)]) (e := [(0, iG z g e), (1, iQ ps zp ep), (5, bM s), (13, iI ps.length), (14, iI ps.length)])
    (fun i hi hq => by
      obtain ⟨p, hp⟩ := at_lt hi
      rw [hp] at hq
      dsimp only at hq
      have hin := l_open2 hg z zp e ep ps.length hp (hok p (List.mem_of_getElem? hp)) hs 0 (Nat.zero_le _)
      rw [List.drop_zero, hq] at hin
      have hi' : (i : Int) < ps.length := by omega
      refine wpQ_way (q52_l0a _ _ z (syms g) e zp (prts ps) ep (bsD s) _ i _) ?_
      refine condW_t (decide_eq_true hi') (condW_t (decide_eq_true (by omega)) ⟨_, _, _, _, _, _, _, _, _, by simpa [PtR.d] using prts_at hp, ?_⟩)
      rw [ins_len']
      refine ⟨_, _, _, _, _, _, _, _, _, _, _, _, _, _, _, _, hin, condW_t rfl ?_⟩
      rw [wr1 hi (by omega)])
    (fun i hi hq => by
      obtain ⟨p, hp⟩ := at_lt hi
      rw [hp] at hq
      dsimp only at hq
      have hin := l_open2 hg z zp e ep ps.length hp (hok p (List.mem_of_getElem? hp)) hs 0 (Nat.zero_le _)
      rw [List.drop_zero, hq] at hin
      have hi' : (i : Int) < ps.length := by omega
      refine wpQ_way (q52_l0a _ _ z (syms g) e zp (prts ps) ep (bsD s) _ i _) ?_
      refine condW_t (decide_eq_true hi') (condW_t (decide_eq_true (by omega)) ⟨_, _, _, _, _, _, _, _, _, by simpa [PtR.d] using prts_at hp, ?_⟩)
      rw [ins_len']
      exact ⟨_, _, _, _, _, _, _, _, _, _, _, _, _, _, _, _, hin, condW_f rfl rfl⟩)
    (wpQ_way (q52_l0a _ _ z (syms g) e zp (prts ps) ep (bsD s) _ ps.length _) (by simp)) 0 (Nat.zero_le _)
  rw [prts_len]
  have hop : openF g s (ps.map PtR.pt) = ps.all fun p => p.cand.any fun c => okB g s p.codes.l c.2.l := by
    unfold openF
    rw [List.all_map]
    congr 1
    funext p
    exact pt_any g s p
  rw [hop]
  rcases h2 with ⟨h3, h4⟩ | ⟨⟨j, _, hj, hq⟩, h4⟩
  · have : (ps.all fun p => p.cand.any fun c => okB g s p.codes.l c.2.l) = true := by
      rw [List.all_eq_true]
      intro p hp
      obtain ⟨i, hi, rfl⟩ := List.getElem_of_mem hp
      have := h3 i (Nat.zero_le _) hi
      rw [List.getElem?_eq_getElem hi] at this
      exact this
    rw [this]
    exact .inr ⟨_, _, _, _, _, _, _, _, _, h4, rfl⟩
  · have : (ps.all fun p => p.cand.any fun c => okB g s p.codes.l c.2.l) = false := by
      rw [List.all_eq_false]
      refine ⟨ps[j], List.getElem_mem hj, ?_⟩
      rw [List.getElem?_eq_getElem hj] at hq
      simpa using hq
    rw [this]
    exact .inl ⟨_, h4, rfl⟩
/-! ### The search -/
def rI (r : List Nat) : List Int := r.map fun (n : Nat) => (n : Int)
def fRes (o : Option (List Nat)) : IV := match o with
  | some r => .tup [.own r.isEmpty 3 1 (ints (rI r)), iB true]
  | none => .tup [.own true 3 1 [], iB false]
theorem try_len {g : List Sym} : ∀ {ps : List Pt} {s : Bs} {r : List Nat}, findF g ps s = some r → r.length = ps.length := by
  have key : ∀ (ps : List Pt), (∀ s r, findF g ps s = some r → r.length = ps.length) → ∀ (a : List Int) (s : Bs) (xs : List (Nat × List Int)) (r : List Nat), tryF g a ps s xs = some r → r.length = ps.length + 1 := by
    intro ps hps a s xs
    induction xs with
    | nil => intro r h; simp [tryF] at h
    | cons x xs ih =>
      intro r h
      rw [tryF] at h
      split at h
      · exact ih r h
      · split at h
        · rename_i u _ r' hr
          cases h
          simp [hps _ _ hr]
        · exact ih r h
  intro ps
  induction ps with
  | nil => intro s r h; rw [findF] at h; cases h; rfl
  | cons p ps ih =>
    intro s r h
    rw [findF] at h
    rw [key ps (fun s r h => ih h) _ _ _ _ h]; rfl
theorem w_find' {g : List Sym} (hg : SigOk g) (z : Bool) (e : List D) : ∀ (ps : List PtR) (zp : Bool) (ep : List D) (s : Bs), ps.length ≤ 1000 → (∀ p ∈ ps, PtOk p) → BsOk s → C 53 [iG z g e, iQ ps zp ep, .d (.agg (bsD s))] = some (fRes (findF g (ps.map PtR.pt) s), [iG z g e, iQ ps zp ep, .d (.agg (bsD s))]) := by
  intro ps
  induction ps with
  | nil =>
    intro zp ep s _ _ _
    refine wfn (lk := []) rfl rfl (fnW_way (q53 _ _ z (syms g) e zp (prts []) ep (bsD s) _) ?_)
    exact condW_t rfl (by rw [List.map_nil, findF]; rfl)
  | cons p ps ih =>
    intro zp ep s hn hok hs
    have hn' : ps.length + 1 ≤ 1000 := by simpa using hn
    refine wfn (lk := []) rfl rfl (fnW_way (q53 _ _ z (syms g) e zp (prts (p :: ps)) ep (bsD s) _) ?_)
    have hpok := hok p (by simp)
    have hps : ∀ q ∈ ps, PtOk q := fun q hq => hok q (by simp [hq])
    have hcn := hpok.len
    have h0 : (prts (p :: ps))[0]? = some p.d := rfl
    have hdrop : (prts (p :: ps)).drop (Int.toNat 1) = prts ps := rfl
    have hlen1 : (1 : Int) ≤ ((prts (p :: ps)).length : Int) := by rw [prts_len]; simp; omega
    have hl := blk_fun (F := F) (d := d53) (lk := []) (p := [1,1,0,1,0,0]) (p0 := [1,1,0,1]) (id := 0) (by kernel_rfl) (st := fun (i : Nat) => [(0, iG z g e), (1, iQ (p :: ps) zp ep), (5, bM s), (19, .d (.sl 1 p.cand.isEmpty (ins p.cand) [])), (20, iI p.cand.length), (21, iI i)]) (I := fun i => i ≤ p.cand.length) (μ := fun i => p.cand.length - i)
      (res := fun i => match tryF g p.codes.l (ps.map PtR.pt) s ((p.cand.drop i).map fun x => (x.1, x.2.l)) with | some r => .ret [(6, .own false 3 1 (ints (rI r))), (7, iB true)] | none => .norm [(0, iG z g e), (1, iQ (p :: ps) zp ep), (5, bM s), (19, .d (.sl 1 p.cand.isEmpty (ins p.cand) [])), (20, iI p.cand.length), (21, iI p.cand.length)])
      (fun i hi => by
        by_cases h : i < p.cand.length
        · obtain ⟨c, hc⟩ := at_lt h
          have hd : p.cand.drop i = c :: p.cand.drop (i + 1) := by
            rw [List.drop_eq_getElem_cons h]
            rw [List.getElem?_eq_getElem h] at hc
            cases hc; rfl
          have hwid : (D.width (.agg (bsD s)) == 24) = true := by rw [bsD_width]; rfl
          have hcok := hpok.cand c (List.mem_of_getElem? hc)
          have hw := w_mgrow' hg z e hpok.codes hcok hs
          have hi' : (i : Int) < p.cand.length := by omega
          have hwr := wr1 h (show p.cand.length ≤ 9223372036854775807 by omega)
          cases hb : growF g s p.codes.l c.2.l with
          | none =>
            have hob : okB g s p.codes.l c.2.l = false := by unfold okB; rw [hb]; rfl
            rw [hob] at hw
            refine .go (i + 1) (wpQ_way (q53_l0a _ _ z (syms g) e zp (prts (p :: ps)) ep (bsD s) p.cand.isEmpty (ins p.cand) [] p.cand.length i _) ?_) h (by omega) ?_
            · refine condW_t (decide_eq_true hi') ?_
              refine condW_t (decide_eq_true (by omega)) ?_
              refine ⟨_, _, _, ins_at hc, ?_⟩
              rw [bsD_len s]
              refine condW_t rfl ?_
              refine condW_t hwid ?_
              refine ⟨_, _, _, _, _, _, _, _, _, h0, ?_⟩
              refine ⟨_, _, _, _, _, hw, ?_⟩
              refine condW_f rfl ?_
              rw [hwr]
            · rw [hd, List.map_cons, tryF, hb]
          | some u =>
            have hob : okB g s p.codes.l c.2.l = true := by unfold okB; rw [hb]; rfl
            rw [hob, grow_fst hb] at hw
            have hu := grow_bound hcok.len hs hb
            have hopen := w_open hg z zp e [] (ps := ps) (by omega) hps hu
            have hfind := ih zp [] u (by omega) hps hu
            cases ho : openF g u (ps.map PtR.pt)
            · rw [ho] at hopen
              refine .go (i + 1) (wpQ_way (q53_l0a _ _ z (syms g) e zp (prts (p :: ps)) ep (bsD s) p.cand.isEmpty (ins p.cand) [] p.cand.length i _) ?_) h (by omega) ?_
              · refine condW_t (decide_eq_true hi') ?_
                refine condW_t (decide_eq_true (by omega)) ?_
                refine ⟨_, _, _, ins_at hc, ?_⟩
                rw [bsD_len s]
                refine condW_t rfl ?_
                refine condW_t hwid ?_
                refine ⟨_, _, _, _, _, _, _, _, _, h0, ?_⟩
                refine ⟨_, _, _, _, _, hw, ?_⟩
                refine condW_t rfl ?_
                refine condW_t (decide_eq_true hlen1) ?_
                rw [bsD_len u]
                refine condW_t rfl ?_
                refine ⟨_, _, _, _, hopen, ?_⟩
                refine condW_f rfl ?_
                rw [hwr]
              · rw [hd, List.map_cons, tryF, hb]; simp only [open_none ho]
            · rw [ho] at hopen
              cases hf : findF g (ps.map PtR.pt) u with
              | none =>
                rw [hf] at hfind
                refine .go (i + 1) (wpQ_way (q53_l0a _ _ z (syms g) e zp (prts (p :: ps)) ep (bsD s) p.cand.isEmpty (ins p.cand) [] p.cand.length i _) ?_) h (by omega) ?_
                · refine condW_t (decide_eq_true hi') ?_
                  refine condW_t (decide_eq_true (by omega)) ?_
                  refine ⟨_, _, _, ins_at hc, ?_⟩
                  rw [bsD_len s]
                  refine condW_t rfl ?_
                  refine condW_t hwid ?_
                  refine ⟨_, _, _, _, _, _, _, _, _, h0, ?_⟩
                  refine ⟨_, _, _, _, _, hw, ?_⟩
                  refine condW_t rfl ?_
                  refine condW_t (decide_eq_true hlen1) ?_
                  rw [bsD_len u]
                  refine condW_t rfl ?_
                  refine ⟨_, _, _, _, hopen, ?_⟩
                  refine condW_t rfl ?_
                  refine condW_t (decide_eq_true hlen1) ?_
                  refine condW_t rfl ?_
                  refine ⟨_, _, _, _, _, _, hfind, ?_⟩
                  refine condW_f rfl ?_
                  rw [hwr]
                · rw [hd, List.map_cons, tryF, hb]; simp only [hf]
              | some r =>
                rw [hf] at hfind
                have hrl := try_len hf
                rw [List.length_map] at hrl
                refine .stop (.ret [(6, .own false 3 1 (ints (rI (c.1 :: r)))), (7, iB true)]) (wpQ_way (q53_l0a _ _ z (syms g) e zp (prts (p :: ps)) ep (bsD s) p.cand.isEmpty (ins p.cand) [] p.cand.length i _) ?_) rfl ?_
                · have hil : (ints (rI r)).length = r.length := by simp [ints, rI]
                  refine condW_t (decide_eq_true hi') ?_
                  refine condW_t (decide_eq_true (by omega)) ?_
                  refine ⟨_, _, _, ins_at hc, ?_⟩
                  rw [bsD_len s]
                  refine condW_t rfl ?_
                  refine condW_t hwid ?_
                  refine ⟨_, _, _, _, _, _, _, _, _, h0, ?_⟩
                  refine ⟨_, _, _, _, _, hw, ?_⟩
                  refine condW_t rfl ?_
                  refine condW_t (decide_eq_true hlen1) ?_
                  rw [bsD_len u]
                  refine condW_t rfl ?_
                  refine ⟨_, _, _, _, hopen, ?_⟩
                  refine condW_t rfl ?_
                  refine condW_t (decide_eq_true hlen1) ?_
                  refine condW_t rfl ?_
                  refine ⟨_, _, _, _, _, _, hfind, ?_⟩
                  refine condW_t rfl ?_
                  refine ⟨_, _, _, _, _, _, _, _, _, h0, ?_⟩
                  refine condW_t (decide_eq_true (by omega)) ?_
                  refine ⟨_, pls_at hc, ?_⟩
                  refine condW_t (decide_eq_true (by rw [hil]; omega)) ?_
                  refine condW_t (decide_eq_true (by rw [hil]; omega)) ?_
                  rfl
                · rw [hd, List.map_cons, tryF, hb]; simp only [hf]; rfl
        · have e0 : i = p.cand.length := by omega
          subst e0
          refine .stop (.exit 0 [(0, iG z g e), (1, iQ (p :: ps) zp ep), (5, bM s), (19, .d (.sl 1 p.cand.isEmpty (ins p.cand) [])), (20, iI p.cand.length), (21, iI p.cand.length)]) (wpQ_way (q53_l0a _ _ z (syms g) e zp (prts (p :: ps)) ep (bsD s) p.cand.isEmpty (ins p.cand) [] p.cand.length _ _) (by simp)) rfl ?_
          rw [List.drop_length, List.map_nil, tryF]; rfl) 0 (Nat.zero_le _)
    rw [List.drop_zero] at hl
    rw [List.map_cons, findF]
    have hpt : tryF g p.pt.codes (ps.map PtR.pt) s p.pt.cand = tryF g p.codes.l (ps.map PtR.pt) s (p.cand.map fun x => (x.1, x.2.l)) := rfl
    rw [hpt]
    refine condW_f (by rw [prts_len]; simp; omega) ⟨_, _, _, _, _, _, _, _, _, h0, ?_⟩
    rw [ins_len']
    cases ht : tryF g p.codes.l (ps.map PtR.pt) s (p.cand.map fun x => (x.1, x.2.l)) with
    | none =>
      rw [ht] at hl
      exact .inr ⟨_, _, _, _, _, _, _, _, _, _, _, _, hl, rfl⟩
    | some r =>
      rw [ht] at hl
      refine .inl ⟨_, _, _, hl, ?_⟩
      have : r ≠ [] := by
        rintro rfl
        have h1 : findF g ((p :: ps).map PtR.pt) s = some [] := by rw [List.map_cons, findF]; exact ht
        have := try_len h1
        simp at this
      have hre : r.isEmpty = false := by cases r <;> simp at this ⊢
      simp only [fRes, hre]
end Go.Proofs.YtekdlnofmbfdgaaDoor.Ab
