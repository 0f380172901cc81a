/- script.Parse: what lies in memory between two rounds. -/
import Derived.Test.YtbeaalkfakjoiaaDoorScrL
import Derived.Test.YtbeaalkfakjoiaaDoorScrOToScrP
import Derived.RangeFuncBox
import Derived.Scope
import Derived.Shelf.RegionOpen
set_option linter.unusedVariables false
set_option linter.unusedSimpArgs false
namespace Go.Proofs.YtbeaalkfakjoiaaDoor
open Go Go.AM Go.RowKit Go.Shelf Go.RangeBox
attribute [local go_sem] Oper.semAt_some
theorem arr4 {vals : Array Value} (h : vals.size = 4) : vals = #[vals.getD 0 undef, vals.getD 1 undef, vals.getD 2 undef, vals.getD 3 undef] := by
  obtain ⟨l⟩ := vals
  match l, h with
  | [a, b, c, d], _ => rfl
theorem arr5 {vals : Array Value} (h : vals.size = 5) : vals = #[vals.getD 0 undef, vals.getD 1 undef, vals.getD 2 undef, vals.getD 3 undef, vals.getD 4 undef] := by
  obtain ⟨l⟩ := vals
  match l, h with
  | [a, b, c, d, e], _ => rfl
theorem Lines_in (t : List UInt8) (n : Nat) (w : World) : CallsIn Fence.wide n Tryd.prog 35 #[.string ⟨t.toArray⟩] w fun e w' => e = .returned (.func (.func 52) #[] #[.pointer (some ⟨w.heap.size, 0, none⟩)]) ∧ w' = w.alloc (.cells #[.string ⟨t.toArray⟩] 9) := by
  refine callsIn_of_wp Tryd.func35 rfl trivial ?_ rfl
  simp only [Tryd.ntmps35, List.size_toArray, List.length_cons, List.length_nil, Nat.reduceAdd, Nat.reduceSub, Array.replicate_succ, Array.replicate_zero, List.push_toArray, List.append_toArray, List.nil_append, List.cons_append]
  gi_wp2
  go_ret
  exact ⟨rfl, rfl⟩
def hdV (h : Int × Int × Int) : Value := .agg #[.int .i64 h.1, .int .i64 h.2.1, .int .i64 h.2.2, .slice none 0 0]
def cmC (c : Cm) : List Value := [.int .i64 c.k, .int .i64 c.se, .string ⟨c.t.toArray⟩, .int .i64 c.to, .int .i64 c.ke]
theorem rep_hd {own : Nat → Prop} {w : World} {v : Value} {h : Int × Int × Int} (hr : Rep noG own w v (.agg [.int .i64 h.1, .int .i64 h.2.1, .int .i64 h.2.2, .nilSl])) : v = hdV h := by
  obtain ⟨vs, rfl, hz, hv⟩ := rep_agg hr
  have e0 := rep_int (hv 0 _ rfl)
  have e1 := rep_int (hv 1 _ rfl)
  have e2 := rep_int (hv 2 _ rfl)
  have e3 : vs.getD 3 undef = .slice none 0 0 := by
    have := hv 3 _ rfl
    generalize vs.getD 3 undef = u at this
    cases this
    rfl
  rw [arr4 hz, e0, e1, e2, e3]
  rfl
theorem rep_cm {own : Nat → Prop} {w : World} {v : Value} {c : Cm} (hr : Rep noG own w v (.agg (cells c))) : v = .agg (cmC c).toArray := by
  obtain ⟨vs, rfl, hz, hv⟩ := rep_agg hr
  have e0 := rep_int (hv 0 _ rfl)
  have e1 := rep_int (hv 1 _ rfl)
  have e2 := rep_str (hv 2 _ rfl)
  have e3 := rep_int (hv 3 _ rfl)
  have e4 := rep_int (hv 4 _ rfl)
  rw [arr5 hz, e0, e1, e2, e3, e4]
  rfl
theorem head_in {s : List UInt8} (hs : s.length ≤ 1000000000) {w : World} (hg : Gl.ok w) :
    Calls Tryd.prog 36 #[.string ⟨s.toArray⟩] w fun e w' => ∃ h : Int × Int × Int, e = .returned (.tuple #[.agg #[.int .i64 h.1, .int .i64 h.2.1, .int .i64 h.2.2, .slice none 0 0], .bool (hdO s).isSome]) ∧ (∀ h', hdO s = some h' → h' = h) ∧ Below w.heap.size w w' := by
  obtain ⟨h, hR, hc, hh⟩ := run_parseHead hs
  refine (call_plain hc hg (vals := #[.string ⟨s.toArray⟩]) rfl ?_).mono ?_
  · intro i c hi
    match i with
    | 0 => injection hi with hi; subst hi; exact .str _
    | i + 1 => cases hi
  · rintro e w' ⟨u, he, hbl, hr⟩
    obtain ⟨vs, rfl, hz, hv⟩ := rep_tuple hr
    have e0 := rep_hd (hv 0 _ rfl)
    have e1 := rep_bool (hv 1 _ rfl)
    refine ⟨h, ?_, hh, hbl⟩
    rw [he, arr2 hz, e0, e1]
    rfl
theorem line_in {s : List UInt8} (hs : s.length ≤ 1000000000) {w : World} (hg : Gl.ok w) :
    Calls Tryd.prog 9 #[.string ⟨s.toArray⟩] w fun e w' => ∃ c : Cm, e = .returned (.tuple #[.agg #[.int .i64 c.k, .int .i64 c.se, .string ⟨c.t.toArray⟩, .int .i64 c.to, .int .i64 c.ke], .bool (plO s).isSome]) ∧ (∀ c', plO s = some c' → c' = c) ∧ Below w.heap.size w w' := by
  obtain ⟨o, hc, hs⟩ := run_ParseLine (s := s) (by omega)
  have ho := plO_eq hs
  obtain ⟨c, hc', hoc⟩ : ∃ c : Cm, twoC o = .tuple [.agg (cells c), .bool o.isSome] ∧ ∀ c', o = some c' → c' = c := by
    cases o with
    | none => exact ⟨⟨0, 0, [], 0, 0⟩, rfl, fun c' h => by cases h⟩
    | some c => exact ⟨c, rfl, fun c' h => by injection h with h; exact h.symm⟩
  rw [hc'] at hc
  refine (call_plain hc hg (vals := #[.string ⟨s.toArray⟩]) rfl ?_).mono ?_
  · intro i c hi
    match i with
    | 0 => injection hi with hi; subst hi; exact .str _
    | i + 1 => cases hi
  · rintro e w' ⟨u, he, hbl, hr⟩
    obtain ⟨vs, rfl, hz, hv⟩ := rep_tuple hr
    have e0 := rep_cm (hv 0 _ rfl)
    have e1 := rep_bool (hv 1 _ rfl)
    refine ⟨c, ?_, by rw [ho]; exact hoc, hbl⟩
    rw [he, arr2 hz, e0, e1, ho]
    rfl
theorem suff_in {s : List UInt8} (hs : s.length ≤ 1000000000) {w : World} (hg : Gl.ok w) :
    Calls Tryd.prog 37 #[.string ⟨s.toArray⟩, .string ⟨#[10]⟩] w fun e w' => e = .returned (.bool (ends s)) ∧ Below w.heap.size w w' := by
  have hc := run_HasSuffix (s := s) (by omega)
  refine (call_plain hc hg (vals := #[.string ⟨s.toArray⟩, .string ⟨#[10]⟩]) rfl ?_).mono ?_
  · intro i c hi
    match i with
    | 0 => injection hi with hi; subst hi; exact .str _
    | 1 => injection hi with hi; subst hi; exact .str [10]
    | i + 2 => cases hi
  · rintro e w' ⟨u, he, hbl, hr⟩
    exact ⟨by rw [he, rep_bool hr], hbl⟩
def okS (ls : List (List UInt8)) (h : Int × Int × Int) (cs : List Cm) : Prop := match ls with
  | [] => h = (0, 0, 0) ∧ cs = []
  | x :: r => hdO x = some h ∧ r.map plO = cs.map some ∧ cs.length ≤ 1024
structure PI (w : World) (h : Int × Int × Int) (cs : List Cm) (wr la : Int) (W : World) : Prop where
  below : Below w.heap.size w W
  res : W.heap[w.heap.size]? = some (.cells #[.int .i64 0, .int .i64 0, .int .i64 0, .slice none 0 0] 37 (0, 0))
  scr : ∃ v, W.heap[w.heap.size + 1]? = some (.cells #[.int .i64 h.1, .int .i64 h.2.1, .int .i64 h.2.2, v] 37 (0, 0)) ∧ W.ownsRow w.heap.size 23 5 v cs.length (cs.flatMap cmC) ∧ (v = .slice none 0 0 ↔ cs = [])
  wro : Boxed W (w.heap.size + 1 + 1) 3 (.int .i64 wr)
  las : Boxed W (w.heap.size + 1 + 1 + 1) 3 (.int .i64 la)
  itr : ∃ v, Boxed W (w.heap.size + 1 + 1 + 1 + 1) 9 v
theorem not_row {W : World} {B : Nat} {t e : TypeId} {us : Array Value} (h : W.heap[B]? = some (.cells us t (0, 0))) (hte : t ≠ e) {base size k : Nat} {v : Value} {xs : List Value} (hr : W.ownsRow base e size v k xs) : v.ownBlock ≠ some B := by
  rcases hr.2 with ⟨rfl, _⟩ | ⟨g, cap, cur, rfl, _, hgb, _⟩
  · simp [Value.ownBlock]
  · intro e'
    obtain rfl : g = B := by simpa [Value.ownBlock] using e'
    have := h.symm.trans hgb
    simp at this
    exact hte this.2
theorem keep_cells {A B : World} {row : Option Nat} {b : Nat} {us : Array Value} {t : TypeId} (h : A.heap[b]? = some (.cells us t (0, 0))) (hg : A.grownBy B row) (hr : row ≠ some b) : B.heap[b]? = some (.cells us t (0, 0)) :=
  (hg.block b (Array.getElem?_eq_some_iff.1 h).1 (fun e => hr e.symm)).trans h
theorem PI.grown {w : World} {h : Int × Int × Int} {cs : List Cm} {wr la : Int} {A B : World} {row : Option Nat} (hp : PI w h cs wr la A) (hg : A.grownBy B row) (hr : ∀ r, row = some r → w.heap.size ≤ r ∧ ∃ o : Obj, A.heap[r]? = some o ∧ o.isCells = false) : PI w h cs wr la B := by
  have hne : ∀ {b : Nat} {us : Array Value} {t : TypeId}, A.heap[b]? = some (.cells us t (0, 0)) → row ≠ some b := fun hb e => by
    obtain ⟨o, ho, hc⟩ := (hr _ e).2
    rw [hb] at ho
    cases ho
    cases hc
  obtain ⟨v, s1, s2, s3⟩ := hp.scr
  obtain ⟨i, hi⟩ := hp.itr
  refine ⟨hp.below.grown hg hp.below.size fun k e => (hr k e).1, keep_cells hp.res hg (hne hp.res), ⟨v, keep_cells s1 hg (hne s1), s2.kept hg ?_, s3⟩, keep_cells hp.wro hg (hne hp.wro), keep_cells hp.las hg (hne hp.las), ⟨i, keep_cells hi hg (hne hi)⟩⟩
  rcases s2.2 with ⟨rfl, _⟩ | ⟨g, cap, cur, rfl, _, hgb, _⟩
  · exact .inl rfl
  · refine .inr fun e' => ?_
    obtain ⟨o, ho, hc⟩ := (hr g (by simpa [Value.ownBlock] using e'.symm)).2
    rw [hgb] at ho
    cases ho
    cases hc
theorem PI.bel {w : World} {h : Int × Int × Int} {cs : List Cm} {wr la : Int} {A B : World} (hp : PI w h cs wr la A) (hb : Below A.heap.size A B) : PI w h cs wr la B := hp.grown (row := none) (grown_of hb) (fun r e => by cases e)
theorem PI.alloc {w : World} {h : Int × Int × Int} {cs : List Cm} {wr la : Int} {A : World} (hp : PI w h cs wr la A) (o : Obj) : PI w h cs wr la (A.alloc o) := hp.grown (World.grownBy_alloc A o none) (fun r e => by cases e)
theorem PI.setW {w : World} {h : Int × Int × Int} {cs : List Cm} {wr la : Int} {A : World} (hp : PI w h cs wr la A) (n : Int) : PI w h cs n la (A.setCell ⟨w.heap.size + 1 + 1, 0, none⟩ (.int .i64 n)) := by
  have hg := grownBy_setCell' A (w.heap.size + 1 + 1) (.int .i64 n)
  obtain ⟨v, s1, s2, s3⟩ := hp.scr
  obtain ⟨i, hi⟩ := hp.itr
  exact ⟨hp.below.setCell (p := ⟨w.heap.size + 1 + 1, 0, none⟩) (by simp; omega) _, keep_cells hp.res hg (by simp; omega), ⟨v, keep_cells s1 hg (by simp), s2.kept hg (.inr (not_row hp.wro (by decide) s2)), s3⟩, hp.wro.set _, keep_cells hp.las hg (by simp), ⟨i, keep_cells hi hg (by simp)⟩⟩
theorem PI.setL {w : World} {h : Int × Int × Int} {cs : List Cm} {wr la : Int} {A : World} (hp : PI w h cs wr la A) (n : Int) : PI w h cs wr n (A.setCell ⟨w.heap.size + 1 + 1 + 1, 0, none⟩ (.int .i64 n)) := by
  have hg := grownBy_setCell' A (w.heap.size + 1 + 1 + 1) (.int .i64 n)
  obtain ⟨v, s1, s2, s3⟩ := hp.scr
  obtain ⟨i, hi⟩ := hp.itr
  exact ⟨hp.below.setCell (p := ⟨w.heap.size + 1 + 1 + 1, 0, none⟩) (by simp; omega) _, keep_cells hp.res hg (by simp; omega), ⟨v, keep_cells s1 hg (by simp; omega), s2.kept hg (.inr (not_row hp.las (by decide) s2)), s3⟩, keep_cells hp.wro hg (by simp), hp.las.set _, ⟨i, keep_cells hi hg (by simp)⟩⟩
theorem PI.setI {w : World} {h : Int × Int × Int} {cs : List Cm} {wr la : Int} {A : World} (hp : PI w h cs wr la A) (x : Value) : PI w h cs wr la (A.setCell ⟨w.heap.size + 1 + 1 + 1 + 1, 0, none⟩ x) := by
  have hg := grownBy_setCell' A (w.heap.size + 1 + 1 + 1 + 1) x
  obtain ⟨v, s1, s2, s3⟩ := hp.scr
  obtain ⟨i, hi⟩ := hp.itr
  exact ⟨hp.below.setCell (p := ⟨w.heap.size + 1 + 1 + 1 + 1, 0, none⟩) (by simp; omega) _, keep_cells hp.res hg (by simp; omega), ⟨v, keep_cells s1 hg (by simp; omega), s2.kept hg (.inr (not_row hi (by decide) s2)), s3⟩, keep_cells hp.wro hg (by simp; omega), keep_cells hp.las hg (by simp), ⟨x, hi.set _⟩⟩
def PIn (w : World) (pre : List (Int × List UInt8)) (W : World) : Prop := ∃ ls h cs, pre = numL 1 ls ∧ okS ls h cs ∧ PI w h cs (if ls = [] then 1 else 0) (ls.length : Int) W
def PIx (w : World) (c : Code) (pre : List (Int × List UInt8)) (W : World) : Prop := c = .exit 0 ∧ ∃ ls x h cs h' cs', pre = numL 1 (ls ++ [x]) ∧ okS ls h cs ∧ ((ls = [] ∧ hdO x = none) ∨ (ls ≠ [] ∧ (plO x = none ∨ cs.length = 1024))) ∧ PI w h' cs' ((ls.length : Int) + 1) ((ls.length : Int) + 1) W
theorem numL_inj : ∀ (k : Nat) (a b : List (List UInt8)), numL k a = numL k b → a = b
  | _, [], [], _ => rfl
  | _, [], _ :: _, h => by cases h
  | _, _ :: _, [], h => by cases h
  | k, x :: a, y :: b, h => by
    rw [numL, numL] at h
    injection h with h1 h2
    injection h1 with _ h1
    rw [h1, numL_inj (k + 1) a b h2]
theorem numL_app : ∀ (k : Nat) (a b : List (List UInt8)), numL k (a ++ b) = numL k a ++ numL (k + a.length) b
  | _, [], _ => rfl
  | k, x :: a, b => by
    rw [List.cons_append, numL, numL, numL_app (k + 1) a b, List.length_cons, List.cons_append]
    congr 3
    omega
theorem numL_split {k : Nat} {ls a : List (List UInt8)} {x : Int × List UInt8} {rest : List (Int × List UInt8)} (h : numL k ls = numL k a ++ x :: rest) : x.1 = ((k + a.length : Nat) : Int) ∧ ∃ b, ls = a ++ x.2 :: b := by
  induction a generalizing k ls with
  | nil =>
    cases ls with
    | nil => cases h
    | cons y l =>
      rw [numL] at h
      injection h with h1 h2
      exact ⟨by rw [← h1]; rfl, l, by rw [← h1]; rfl⟩
  | cons y a ih =>
    cases ls with
    | nil => cases h
    | cons z l =>
      rw [numL, numL] at h
      injection h with h1 h2
      injection h1 with _ h1
      obtain ⟨e1, b, e2⟩ := ih h2
      refine ⟨by rw [e1, List.length_cons]; congr 1; omega, b, by rw [h1, e2]; rfl⟩
theorem lines_len : ∀ (t : List UInt8), ∀ x ∈ linesB t, x.length ≤ t.length
  | [], x, h => by simp [linesB] at h
  | c :: s, x, h => by
    have ih := lines_len s
    rw [linesB] at h
    split at h
    · rcases List.mem_cons.1 h with rfl | h
      · simp
      · have := ih x h
        simp
        omega
    · cases hl : linesB s with
      | nil =>
        rw [hl] at h
        simp at h
        simp [h]
      | cons p ps =>
        rw [hl] at h ih
        rcases List.mem_cons.1 h with rfl | h
        · have := ih p (List.mem_cons_self ..)
          simp
          omega
        · have := ih x (List.mem_cons_of_mem _ h)
          simp
          omega
theorem PI.cells {w : World} {h : Int × Int × Int} {cs : List Cm} {wr la : Int} {A : World} (hp : PI w h cs wr la A) : ∃ v, A.ownsRow w.heap.size 23 5 v cs.length (cs.flatMap cmC) ∧ (v = .slice none 0 0 ↔ cs = []) ∧
    A.heap[w.heap.size + 1]? = some (.cells #[.int .i64 h.1, .int .i64 h.2.1, .int .i64 h.2.2, v] 37 (0, 0)) ∧
    A.cell? ⟨w.heap.size + 1, 0, none⟩ = some (.int .i64 h.1) ∧ A.cell? ⟨w.heap.size + 1, 1, none⟩ = some (.int .i64 h.2.1) ∧ A.cell? ⟨w.heap.size + 1, 2, none⟩ = some (.int .i64 h.2.2) ∧ A.cell? ⟨w.heap.size + 1, 3, none⟩ = some v ∧
    A.frozen? ⟨w.heap.size + 1, 0, none⟩ = false ∧ A.frozen? ⟨w.heap.size + 1, 1, none⟩ = false ∧ A.frozen? ⟨w.heap.size + 1, 2, none⟩ = false ∧ A.frozen? ⟨w.heap.size + 1, 3, none⟩ = false := by
  obtain ⟨v, s1, s2, s3⟩ := hp.scr
  refine ⟨v, s2, s3, s1, ?_, ?_, ?_, ?_, Lib.frozen_of_heap s1 0, Lib.frozen_of_heap s1 1, Lib.frozen_of_heap s1 2, Lib.frozen_of_heap s1 3⟩ <;> rw [Lib.cell_of_heap s1] <;> rfl
theorem grown_set (W : World) (b i : Nat) (v : Value) : W.grownBy (W.setCell ⟨b, i, none⟩ v) (some b) :=
  ⟨rfl, rfl, rfl, (KeepsWalks.setCell W _ v).size, fun k _ hk => Below.heap_setCell _ _ _ k (fun e => hk (by rw [e]))⟩
structure Rd (b : Nat) (A B : World) : Prop where
  others : KeepsOthers A B
  itr : b < A.heap.size → B.heap[b]? = A.heap[b]?
theorem Rd.refl (b : Nat) (A : World) : Rd b A A := ⟨KeepsOthers.refl _, fun _ => rfl⟩
theorem Rd.trans {b : Nat} {A B C : World} (h : Rd b A B) (k : Rd b B C) : Rd b A C := ⟨h.others.trans k.others, fun hb => (k.itr (Nat.lt_of_lt_of_le hb h.others.size)).trans (h.itr hb)⟩
theorem Rd.alloc (b : Nat) (A : World) (o : Obj) : Rd b A (A.alloc o) := ⟨KeepsOthers.alloc _ _, fun hb => Below.heap_alloc A o b hb⟩
theorem Rd.set {b : Nat} (A : World) (g i : Nat) (v : Value) (h : b ≠ g) : Rd b A (A.setCell ⟨g, i, none⟩ v) := ⟨KeepsOthers.setCell _ _ _, fun hb => (grown_set A g i v).block b hb (by simpa using h)⟩
theorem Rd.bel {b : Nat} {A B : World} (h : Below A.heap.size A B) : Rd b A B := ⟨KeepsOthers.of_grownBy (grown_of h) (fun j o e => by cases e), fun hb => h.block b hb⟩
theorem PI.setH {w : World} {h : Int × Int × Int} {wr la : Int} {A : World} (hp : PI w h [] wr la A) (k : Int × Int × Int) :
    PI w k [] wr la ((((A.setCell ⟨w.heap.size + 1, 0, none⟩ (.int .i64 k.1)).setCell ⟨w.heap.size + 1, 1, none⟩ (.int .i64 k.2.1)).setCell ⟨w.heap.size + 1, 2, none⟩ (.int .i64 k.2.2)).setCell ⟨w.heap.size + 1, 3, none⟩ (.slice none 0 0)) := by
  obtain ⟨v, s1, s2, s3⟩ := hp.scr
  obtain ⟨i, hi⟩ := hp.itr
  have key : ∀ {b : Nat} {us : Array Value} {t : TypeId}, A.heap[b]? = some (.cells us t (0, 0)) → b ≠ w.heap.size + 1 → ((((A.setCell ⟨w.heap.size + 1, 0, none⟩ (.int .i64 k.1)).setCell ⟨w.heap.size + 1, 1, none⟩ (.int .i64 k.2.1)).setCell ⟨w.heap.size + 1, 2, none⟩ (.int .i64 k.2.2)).setCell ⟨w.heap.size + 1, 3, none⟩ (.slice none 0 0)).heap[b]? = some (.cells us t (0, 0)) := fun hb hne =>
    keep_cells (keep_cells (keep_cells (keep_cells hb (grown_set _ _ 0 _) (by simpa using Ne.symm hne)) (grown_set _ _ 1 _) (by simpa using Ne.symm hne)) (grown_set _ _ 2 _) (by simpa using Ne.symm hne)) (grown_set _ _ 3 _) (by simpa using Ne.symm hne)
  refine ⟨?_, key hp.res (by omega), ⟨.slice none 0 0, ?_, World.ownsRow_nil _ _ _ _, by simp⟩, key hp.wro (by omega), key hp.las (by omega), ⟨i, key hi (by omega)⟩⟩
  · exact (((hp.below.setCell (p := ⟨w.heap.size + 1, 0, none⟩) (by simp) _).setCell (p := ⟨w.heap.size + 1, 1, none⟩) (by simp) _).setCell (p := ⟨w.heap.size + 1, 2, none⟩) (by simp) _).setCell (p := ⟨w.heap.size + 1, 3, none⟩) (by simp) _
  · have e1 := Lib.heap_setCell_same (i := 0) s1 (.int .i64 k.1)
    have e2 := Lib.heap_setCell_same (i := 1) e1 (.int .i64 k.2.1)
    have e3 := Lib.heap_setCell_same (i := 2) e2 (.int .i64 k.2.2)
    have e4 := Lib.heap_setCell_same (i := 3) e3 (.slice none 0 0)
    exact e4
theorem PI.app {w : World} {h : Int × Int × Int} {cs : List Cm} {wr la : Int} {A w1 : World} (hp : PI w h cs wr la A) {v v' : Value} (c : Cm) {tmp : Obj}
    (s1 : A.heap[w.heap.size + 1]? = some (.cells #[.int .i64 h.1, .int .i64 h.2.1, .int .i64 h.2.2, v] 37 (0, 0))) (s2 : A.ownsRow w.heap.size 23 5 v cs.length (cs.flatMap cmC))
    (hown' : w1.ownsRow w.heap.size 23 5 v' (cs.length + 1) (cs.flatMap cmC ++ cmC c)) (hgrow : (A.alloc tmp).grownBy w1 v.ownBlock) :
    w1.heap[w.heap.size + 1]? = some (.cells #[.int .i64 h.1, .int .i64 h.2.1, .int .i64 h.2.2, v] 37 (0, 0)) ∧ Boxed w1 (w.heap.size + 1 + 1) 3 (.int .i64 wr) ∧
    PI w h (cs ++ [c]) wr la (w1.setCell ⟨w.heap.size + 1, 3, none⟩ v') ∧ Rd (w.heap.size + 1 + 1 + 1 + 1) A (w1.setCell ⟨w.heap.size + 1, 3, none⟩ v') := by
  obtain ⟨i, hi⟩ := hp.itr
  have a1 : ∀ {b : Nat} {us : Array Value} {t : TypeId}, A.heap[b]? = some (.cells us t (0, 0)) → t ≠ 23 → w1.heap[b]? = some (.cells us t (0, 0)) := fun hb ht =>
    keep_cells (keep_cells hb (World.grownBy_alloc A tmp none) (by simp)) hgrow (not_row hb ht s2)
  have q1 := a1 s1 (by decide)
  have hg := grown_set w1 (w.heap.size + 1) 3 v'
  have hb1 : Below w.heap.size w w1 := (hp.below.alloc hp.below.size tmp).grown hgrow (by have := hp.below.size; simp; omega) fun j ej => by
    rcases s2.2 with ⟨rfl, _⟩ | ⟨g, cap, cur, rfl, hb, _, _⟩
    · simp [Value.ownBlock] at ej
    · obtain rfl : g = j := by simpa [Value.ownBlock] using ej
      exact hb
  have hr : Rd (w.heap.size + 1 + 1 + 1 + 1) (A.alloc tmp) w1 := by
    refine ⟨KeepsOthers.of_grownBy hgrow fun j o ej hj => ?_, fun hb => hgrow.block _ hb ?_⟩
    · rcases (s2.kept (World.grownBy_alloc A tmp none) (by
        rcases s2.2 with ⟨rfl, _⟩ | ⟨g, cap, cur, rfl, _, _, _⟩
        · exact .inl rfl
        · exact .inr (by simp [Value.ownBlock]))).2 with ⟨rfl, _⟩ | ⟨g, cap, cur, rfl, _, hgb, _⟩
      · simp [Value.ownBlock] at ej
      · obtain rfl : g = j := by simpa [Value.ownBlock] using ej
        rw [hgb] at hj
        cases hj
        rfl
    · exact (not_row hi (by decide) s2).symm
  refine ⟨q1, a1 hp.wro (by decide), ⟨hb1.setCell (p := ⟨w.heap.size + 1, 3, none⟩) (by simp) v', keep_cells (a1 hp.res (by decide)) hg (by first | (simp; done) | (simp; omega)), ⟨v', ?_, ?_, ?_⟩, keep_cells (a1 hp.wro (by decide)) hg (by simp), keep_cells (a1 hp.las (by decide)) hg (by first | (simp; done) | (simp; omega)), ⟨i, keep_cells (a1 hi (by decide)) hg (by first | (simp; done) | (simp; omega))⟩⟩, ((Rd.alloc _ A tmp).trans hr).trans (Rd.set _ _ _ _ (by omega))⟩
  · exact Lib.heap_setCell_same q1 v'
  · rw [List.length_append, List.flatMap_append]
    simp only [List.length_cons, List.length_nil, List.flatMap_cons, List.flatMap_nil, List.append_nil]
    exact hown'.kept hg (.inr (not_row q1 (by decide) hown'))
  · constructor
    · intro e
      subst e
      rcases hown'.2 with ⟨_, h0⟩ | ⟨g, cap, cur, h0, _⟩
      · omega
      · cases h0
    · intro e
      simp at e
theorem own_shape {W : World} {base size k : Nat} {e : TypeId} {v : Value} {xs : List Value} (h : W.ownsRow base e size v k xs) : ∃ a cap, v = .slice a k cap := by
  rcases h.2 with ⟨rfl, rfl⟩ | ⟨g, cap, cur, rfl, _⟩
  · exact ⟨_, _, rfl⟩
  · exact ⟨_, _, rfl⟩
theorem cell_new5 (w : World) (c : Cm) (t : TypeId) {k : Nat} (hk : w.heap.size = k) : ∀ j u, (cmC c)[j]? = some u → (w.alloc (.cells #[.int .i64 c.k, .int .i64 c.se, .string ⟨c.t.toArray⟩, .int .i64 c.to, .int .i64 c.ke] t)).cell? ((⟨k, 0, none⟩ : Addr).add j) = some u := by
  subst hk
  intro j u hj
  have hn := World.alloc_heap_new w (.cells #[.int .i64 c.k, .int .i64 c.se, .string ⟨c.t.toArray⟩, .int .i64 c.to, .int .i64 c.ke] t)
  match j, hj with
  | 0, hj => injection hj with hj; subst hj; rw [show ((⟨w.heap.size, 0, none⟩ : Addr).add 0) = ⟨w.heap.size, 0, none⟩ from rfl, Lib.cell_of_heap hn]; rfl
  | 1, hj => injection hj with hj; subst hj; rw [show ((⟨w.heap.size, 0, none⟩ : Addr).add 1) = ⟨w.heap.size, 1, none⟩ from rfl, Lib.cell_of_heap hn]; rfl
  | 2, hj => injection hj with hj; subst hj; rw [show ((⟨w.heap.size, 0, none⟩ : Addr).add 2) = ⟨w.heap.size, 2, none⟩ from rfl, Lib.cell_of_heap hn]; rfl
  | 3, hj => injection hj with hj; subst hj; rw [show ((⟨w.heap.size, 0, none⟩ : Addr).add 3) = ⟨w.heap.size, 3, none⟩ from rfl, Lib.cell_of_heap hn]; rfl
  | 4, hj => injection hj with hj; subst hj; rw [show ((⟨w.heap.size, 0, none⟩ : Addr).add 4) = ⟨w.heap.size, 4, none⟩ from rfl, Lib.cell_of_heap hn]; rfl
  | j + 5, hj => cases hj
theorem info23 : (Tryd.prog.info? 23).map (fun i => (i.zero, i.size, i.bytes)) = some (some (.agg #[.int .i64 0, .int .i64 0, .string ⟨#[]⟩, .int .i64 0, .int .i64 0]), 5, 48) := by kernel_rfl
theorem PI.rcells {w : World} {h : Int × Int × Int} {cs : List Cm} {wr la : Int} {A : World} (hp : PI w h cs wr la A) :
    A.cell? ⟨w.heap.size, 0, none⟩ = some (.int .i64 0) ∧ A.cell? ⟨w.heap.size, 1, none⟩ = some (.int .i64 0) ∧ A.cell? ⟨w.heap.size, 2, none⟩ = some (.int .i64 0) ∧ A.cell? ⟨w.heap.size, 3, none⟩ = some (.slice none 0 0) ∧
    A.frozen? ⟨w.heap.size, 0, none⟩ = false ∧ A.frozen? ⟨w.heap.size, 1, none⟩ = false ∧ A.frozen? ⟨w.heap.size, 2, none⟩ = false ∧ A.frozen? ⟨w.heap.size, 3, none⟩ = false := by
  refine ⟨?_, ?_, ?_, ?_, Lib.frozen_of_heap hp.res 0, Lib.frozen_of_heap hp.res 1, Lib.frozen_of_heap hp.res 2, Lib.frozen_of_heap hp.res 3⟩ <;> rw [Lib.cell_of_heap hp.res] <;> rfl
theorem PI.fin {w : World} {h : Int × Int × Int} {cs : List Cm} {wr la : Int} {A : World} (hp : PI w h cs wr la A) (k : Int × Int × Int) (x : Value) {B : World}
    (hB : B = (((A.setCell ⟨w.heap.size, 0, none⟩ (.int .i64 k.1)).setCell ⟨w.heap.size, 1, none⟩ (.int .i64 k.2.1)).setCell ⟨w.heap.size, 2, none⟩ (.int .i64 k.2.2)).setCell ⟨w.heap.size, 3, none⟩ x) :
    Below w.heap.size w B ∧ B.heap[w.heap.size]? = some (.cells #[.int .i64 k.1, .int .i64 k.2.1, .int .i64 k.2.2, x] 37 (0, 0)) ∧
    (∀ {v : Value}, A.ownsRow w.heap.size 23 5 v cs.length (cs.flatMap cmC) → B.ownsRow w.heap.size 23 5 v cs.length (cs.flatMap cmC)) ∧ (∀ {D : Nat} {o : Obj}, A.heap[D]? = some o → o.isCells = false → B.heap[D]? = some o) := by
  subst hB
  refine ⟨?_, ?_, ?_, ?_⟩
  · exact (((hp.below.setCell (p := ⟨w.heap.size, 0, none⟩) (by simp) _).setCell (p := ⟨w.heap.size, 1, none⟩) (by simp) _).setCell (p := ⟨w.heap.size, 2, none⟩) (by simp) _).setCell (p := ⟨w.heap.size, 3, none⟩) (by simp) _
  · have e1 := Lib.heap_setCell_same (i := 0) hp.res (.int .i64 k.1)
    have e2 := Lib.heap_setCell_same (i := 1) e1 (.int .i64 k.2.1)
    have e3 := Lib.heap_setCell_same (i := 2) e2 (.int .i64 k.2.2)
    have e4 := Lib.heap_setCell_same (i := 3) e3 x
    exact e4
  · intro v hv
    have e1 := Lib.heap_setCell_same (i := 0) hp.res (.int .i64 k.1)
    have e2 := Lib.heap_setCell_same (i := 1) e1 (.int .i64 k.2.1)
    have e3 := Lib.heap_setCell_same (i := 2) e2 (.int .i64 k.2.2)
    have v1 := hv.kept (grown_set A w.heap.size 0 (.int .i64 k.1)) (.inr (not_row hp.res (by decide) hv))
    have v2 := v1.kept (grown_set _ w.heap.size 1 (.int .i64 k.2.1)) (.inr (not_row e1 (by decide) v1))
    have v3 := v2.kept (grown_set _ w.heap.size 2 (.int .i64 k.2.2)) (.inr (not_row e2 (by decide) v2))
    exact v3.kept (grown_set _ w.heap.size 3 x) (.inr (not_row e3 (by decide) v3))
  · intro D o ho hc
    exact (((KeepsOthers.setCell A _ _).trans (KeepsOthers.setCell _ _ _)).trans ((KeepsOthers.setCell _ _ _).trans (KeepsOthers.setCell _ _ _))).same D o ho hc
theorem res17 {tmps : Array Value} {B : World} {b : Nat} {x0 x1 x2 x3 n e : Value} (h2 : tmps.getD 2 undef = .pointer (some ⟨b, 0, none⟩)) (h3 : tmps.getD 3 undef = n) (h4 : tmps.getD 4 undef = e) (hb : B.heap[b]? = some (.cells #[x0, x1, x2, x3] 37 (0, 0))) :
    (results Tryd.f17 tmps).run Tryd.prog B = .ok (.tuple #[.agg #[x0, x1, x2, x3], n, e]) B := by
  have c0 := Lib.cell_of_heap hb 0
  have c1 := Lib.cell_of_heap hb 1
  have c2 := Lib.cell_of_heap hb 2
  have c3 := Lib.cell_of_heap hb 3
  simp at c0 c1 c2 c3
  have hr : Tryd.f17.results = #[.cell 2 37, .tmp 3, .tmp 4] := rfl
  simp only [results, hr, h2, h3, h4]
  have hl : (loadVar 37 ⟨b, 0, none⟩).run Tryd.prog B = .ok (.agg #[x0, x1, x2, x3]) B := by
    have hu : Tryd.prog.underlying 37 = _ := Tryd.underlying37
    simp [go_sem, loadVar, hu, c0, c1, c2, c3]
  rw [Array.getD_eq_getD_getElem?] at h2 h3 h4
  simp [asAddr, hl, h2, h3, h4]
def slC (cs : List Cm) : PV := if cs = [] then .nilSl else .sl (cs.map cells) false
theorem flat_at : ∀ (cs : List Cm) (j i : Nat) (c : Cm), cs[j]? = some c → i < 5 → (cs.flatMap cmC)[j * 5 + i]? = (cmC c)[i]?
  | [], j, i, c, h, _ => by simp at h
  | d :: r, 0, i, c, h, hi => by
    simp only [List.getElem?_cons_zero, Option.some.injEq] at h
    subst h
    rw [List.flatMap_cons, List.getElem?_append_left (by simp [cmC]; omega)]
    simp
  | d :: r, j + 1, i, c, h, hi => by
    rw [List.getElem?_cons_succ] at h
    rw [List.flatMap_cons, List.getElem?_append_right (by simp [cmC]; omega), ← flat_at r j i c h hi]
    congr 1
    simp [cmC]
    omega
theorem rep_cell {own : Nat → Prop} {W : World} (c : Cm) (i : Nat) (p : PV) (h : (cells c)[i]? = some p) : Rep noG own W ((cmC c).getD i undef) p := by
  match i, h with
  | 0, h => injection h with h; subst h; exact .int _ _
  | 1, h => injection h with h; subst h; exact .int _ _
  | 2, h => injection h with h; subst h; exact .str _
  | 3, h => injection h with h; subst h; exact .int _ _
  | 4, h => injection h with h; subst h; exact .int _ _
  | i + 5, h => cases h
theorem rep_row {F : Nat → Prop} {W : World} {n0 : Nat} (hF : ∀ b, F b → b < n0) {v : Value} {cs : List Cm} (h : W.ownsRow n0 23 5 v cs.length (cs.flatMap cmC)) (hn : v = .slice none 0 0 ↔ cs = []) : Rep noG F W v (slC cs) := by
  unfold slC
  by_cases h0 : cs = []
  · rw [if_pos h0, hn.2 h0]
    exact .nilSl
  · rw [if_neg h0]
    rcases h.2 with ⟨e, _⟩ | ⟨g, cap, cur, rfl, hg, hb, hc, _, hz, hx⟩
    · exact absurd (hn.1 e) h0
    · have hlen : cs.length = (cs.map cells).length := by simp
      rw [hlen]
      refine .sl (cs.map cells) false g 0 cap 5 ⟨g, 0, none⟩ (fun j i => ((cs.getD j ⟨0, 0, [], 0, 0⟩ : Cm) |> cmC).getD i undef) (by rw [← hlen]; exact hc) (fun h => by cases h) (fun _ => rfl) ?_ ?_ ?_
      · intro j c hj
        rw [List.getElem?_map] at hj
        cases hd : cs[j]? with
        | none => rw [hd] at hj; cases hj
        | some d =>
          rw [hd] at hj
          injection hj with hj
          subst hj
          rfl
      · intro j c i p hj hi
        rw [List.getElem?_map] at hj
        cases hd : cs[j]? with
        | none => rw [hd] at hj; cases hj
        | some d =>
          rw [hd] at hj
          injection hj with hj
          subst hj
          have hi5 : i < 5 := (List.getElem?_eq_some_iff.1 hi).1
          have hjl : j < cs.length := (List.getElem?_eq_some_iff.1 hd).1
          refine ⟨?_, fun hf => by have := hF g hf; omega⟩
          show W.cell? ⟨g, 0 + j * 5 + i, none⟩ = _
          rw [Lib.cell_of_heap hb, Nat.zero_add]
          have e1 : (cs.flatMap cmC)[j * 5 + i]? = (cmC d)[i]? := flat_at cs j i d hd hi5
          rw [← hx, List.getElem?_take_of_lt (by omega)] at e1
          rw [← Array.getElem?_toList, e1]
          have e2 : cs.getD j ⟨0, 0, [], 0, 0⟩ = d := by rw [List.getD_eq_getElem?_getD, hd]; rfl
          rw [e2, List.getD_eq_getElem?_getD]
          have hil : i < (cmC d).length := by simpa [cmC] using hi5
          rw [List.getElem?_eq_getElem hil]
          rfl
      · intro j c i p hj hi
        rw [List.getElem?_map] at hj
        cases hd : cs[j]? with
        | none => rw [hd] at hj; cases hj
        | some d =>
          rw [hd] at hj
          injection hj with hj
          subst hj
          have e2 : cs.getD j ⟨0, 0, [], 0, 0⟩ = d := by rw [List.getD_eq_getElem?_getD, hd]; rfl
          show Rep noG F W ((cmC (cs.getD j ⟨0, 0, [], 0, 0⟩)).getD i undef) p
          rw [e2]
          exact rep_cell d i p hi
def parPV (r : Option ((Int × Int × Int) × List Cm) × Int) : PV := match r with
  | (some (h, cs), _) => .tuple [.agg [.int .i64 h.1, .int .i64 h.2.1, .int .i64 h.2.2, slC cs], .int .i64 0, .int .i64 0]
  | (none, n) => .tuple [.agg [.int .i64 0, .int .i64 0, .int .i64 0, .nilSl], .int .i64 n, .int .i64 251]
theorem rep_bad {F : Nat → Prop} {W : World} (n : Int) : Rep noG F W (.tuple #[.agg #[.int .i64 0, .int .i64 0, .int .i64 0, .slice none 0 0], .int .i64 n, .int .i64 251]) (parPV (none, n)) := by
  refine .tuple _ _ rfl fun i c hi => ?_
  match i, hi with
  | 0, hi =>
    injection hi with hi
    subst hi
    refine .agg _ _ rfl fun j d hj => ?_
    match j, hj with
    | 0, hj => injection hj with hj; subst hj; exact .int _ _
    | 1, hj => injection hj with hj; subst hj; exact .int _ _
    | 2, hj => injection hj with hj; subst hj; exact .int _ _
    | 3, hj => injection hj with hj; subst hj; exact .nilSl
    | j + 4, hj => cases hj
  | 1, hi => injection hi with hi; subst hi; exact .int _ _
  | 2, hi => injection hi with hi; subst hi; exact .int _ _
  | i + 3, hi => cases hi
theorem rep_good {F : Nat → Prop} {W : World} {h : Int × Int × Int} {v : Value} {cs : List Cm} (hv : Rep noG F W v (slC cs)) (n : Int) : Rep noG F W (.tuple #[.agg #[.int .i64 h.1, .int .i64 h.2.1, .int .i64 h.2.2, v], .int .i64 0, .int .i64 0]) (parPV (some (h, cs), n)) := by
  refine .tuple _ _ rfl fun i c hi => ?_
  match i, hi with
  | 0, hi =>
    injection hi with hi
    subst hi
    refine .agg _ _ rfl fun j d hj => ?_
    match j, hj with
    | 0, hj => injection hj with hj; subst hj; exact .int _ _
    | 1, hj => injection hj with hj; subst hj; exact .int _ _
    | 2, hj => injection hj with hj; subst hj; exact .int _ _
    | 3, hj => injection hj with hj; subst hj; exact hv
    | j + 4, hj => cases hj
  | 1, hi => injection hi with hi; subst hi; exact .int _ _
  | 2, hi => injection hi with hi; subst hi; exact .int _ _
  | i + 3, hi => cases hi
theorem parG_walk (e : Bool) (more : List (List UInt8)) : ∀ (r : List (List UInt8)) (n : Nat) (a cs : List Cm), r.map plO = cs.map some → a.length + cs.length ≤ 1024 → parG e (r ++ more) n a = parG e more (n + r.length) (a ++ cs)
  | [], n, a, cs, h, _ => by
    cases cs with
    | nil => simp
    | cons c cs => cases h
  | x :: r, n, a, cs, h, hl => by
    cases cs with
    | nil => cases h
    | cons c cs =>
      rw [List.map_cons, List.map_cons] at h
      injection h with h1 h2
      simp only [List.length_cons] at hl
      rw [List.cons_append, parG, h1]
      show (if a.length = 1024 then _ else _) = _
      rw [if_neg (by omega), parG_walk e more r (n + 1) (a ++ [c]) cs h2 (by simp; omega)]
      simp only [List.append_assoc, List.cons_append, List.nil_append, List.length_cons]
      congr 1
      omega
theorem parR_end {t : List UInt8} {ls : List (List UInt8)} {h : Int × Int × Int} {cs : List Cm} (hls : linesB t = ls) (hok : okS ls h cs) (hl : ls ≠ []) : parR t = if ends t = true then (some (h, cs), 0) else (none, (ls.length : Int)) := by
  cases ls with
  | nil => exact absurd rfl hl
  | cons x r =>
    obtain ⟨h1, h2, h3⟩ := hok
    have hw := parG_walk (ends t) [] r 2 [] cs h2 (by simpa using h3)
    rw [List.append_nil, List.nil_append, parG] at hw
    unfold parR
    rw [hls]
    show (match hdO x with | none => _ | some h => _) = _
    rw [h1]
    show (match parG (ends t) r 2 [] with | (some cs, _) => _ | (none, n) => _) = _
    rw [hw]
    cases ends t with
    | true => rfl
    | false =>
      show (none, _) = (none, _)
      congr 1
      simp only [List.length_cons]
      omega
theorem parR_bad {t : List UInt8} {ls more : List (List UInt8)} {x : List UInt8} {h : Int × Int × Int} {cs : List Cm} (hls : linesB t = ls ++ x :: more) (hok : okS ls h cs)
    (hf : (ls = [] ∧ hdO x = none) ∨ (ls ≠ [] ∧ (plO x = none ∨ cs.length = 1024))) : parR t = (none, (ls.length : Int) + 1) := by
  cases ls with
  | nil =>
    rcases hf with ⟨_, hf⟩ | ⟨hf, _⟩
    · unfold parR
      rw [hls]
      show (match hdO x with | none => _ | some h => _) = _
      rw [hf]
      rfl
    · exact absurd rfl hf
  | cons y r =>
    rcases hf with ⟨hf, _⟩ | ⟨_, hf⟩
    · cases hf
    · obtain ⟨h1, h2, h3⟩ := hok
      have hw := parG_walk (ends t) (x :: more) r 2 [] cs h2 (by simpa using h3)
      rw [List.nil_append] at hw
      have hb : parG (ends t) (x :: more) (2 + r.length) cs = (none, ((2 + r.length : Nat) : Int)) := by
        rw [parG]
        cases hp : plO x with
        | none => rfl
        | some c =>
          rcases hf with hf | hf
          · rw [hf] at hp
            cases hp
          · show (if cs.length = 1024 then _ else _) = _
            rw [if_pos hf]
      rw [hb] at hw
      unfold parR
      rw [hls]
      show (match hdO y with | none => _ | some h => _) = _
      rw [h1]
      show (match parG (ends t) (r ++ x :: more) 2 [] with | (some cs, _) => _ | (none, n) => _) = _
      rw [hw]
      show (none, _) = (none, _)
      congr 1
      simp only [List.length_cons]
      omega
end Go.Proofs.YtbeaalkfakjoiaaDoor
