/- The abstract machine: AM25: what the rows hand in, as plain values. · AM26: the arguments of a row; reading again behind the call. · AM27: the words of arithmetic; the table; plain equations. · AM28: loops told apart; rows of one's own that grow. · AM29: slices that are read; bytes. · AM30: lists in slices: read, grown, cut. · AM31: stepping through a drawn region with one loud operation. · AM32: entries without a Go body: bytes compared, found, counted. · AM33: a place of a row of one's own, read and written. · AM34: rows that are made and copied into. · AM35: bytes appended to a row of one's own, whatever its place; a variable written whole; the slice of an array. · AM36: calls that are handed what is one's own: what they leave alone. · AM37: a variable of one's own, read in a drawn region with one loud operation. · AM38: readings of byte slices. · AM39: drawn regions with two loud operations, the later of which looks at what the first answers: the steps. · AM40: steps whose answer is said otherwise. · AM41: a call that is handed what is one's own, which is no longer changed behind it. · AM42: calls and ends whose plain values need no word. · AM43: loops told by lists of temporaries. · AM44: entries without a body, over texts: where a byte stands, how often. · AM45: drawn regions with two stores that do not look at one another: the steps. · AM46: lists by a relation; loops whose turns leave nothing behind. · AM47: readings of lists, by a bound that goes down to all parts. · AM48: readings of lists, with what their parts weigh together. · AM49: bytes of one's own, or a literal's, that are appended to; calls that hand them on. · AM50: drawn regions with a chain of loud operations: the steps. · AM51: drawn regions with one loud operation and a variable boxed aside: the steps. · AM52: rows of one's own that are no longer written; what is known of them told outright. · AM53: a row of one's own, told outright. -/
import Derived.Test.YtbeaalkfakjoiaaDoorAmF
import Derived.WalkKit
import Derived.ProofKit
import Derived.OpenShut
import Derived.ChangeOld
import Derived.SizedLaws
import Derived.ChangeBears
import Derived.Carry
import Derived.Lib.Bytealg
import Derived.Lib.BytesEntry
set_option linter.unusedSectionVars false
set_option linter.unusedVariables false
set_option linter.unusedSimpArgs false
namespace Go.AM
open Go.RowKit Go.ChangeShapes Go.WideShapes Go.ChangeAt
inductive TV {H : Type} (P : Program) : TypeId → DataW H → List PV → Prop
  | bool {t b} (ht : P.underlying t = some .bool) : TV P t (.lit (.bool b)) [.bool b]
  | int {t k n} (ht : P.underlying t = some (.int k)) (hw : (Lit.int k n).wf = true) : TV P t (.lit (.int k n)) [.int k n]
  | str {t} {s : List UInt8} (ht : P.underlying t = some .string) (hs : s.length ≤ maxLen) : TV P t (.lit (.string s)) [.str s]
  | nilPtr {t e} (ht : P.underlying t = some (.pointer e)) : TV P t .nil [.nilPtr]
  | ptr {t e d cs} (ht : P.underlying t = some (.pointer e)) (hp : 0 < P.cellsOf e) (h : TV P e d cs) : TV P t (.ptr d) [.iptr cs 0]
  | nilSl {t e} (ht : P.underlying t = some (.slice e)) : TV P t .nil [.nilSl]
  | sl {t e} {ds rest : List (DataW H)} {xs : List (List PV)} {full : Bool} (ht : P.underlying t = some (.slice e)) (hp : 0 < P.cellsOf e) (hl : xs.length = ds.length) (hm : xs.length ≤ maxLen) (hc : ∀ (j : Nat) (cs : List PV), xs[j]? = some cs → cs.length = P.cellsOf e)
      (h : ∀ (j : Nat) (d : DataW H) (cs : List PV), ds[j]? = some d → xs[j]? = some cs → TV P e d cs) : TV P t (.slice ds rest) [.sl xs full]
  | struct {t fs} {ds : List (DataW H)} {qss : List (List PV)} (ht : P.underlying t = some (.struct fs)) (hd : ds.length = fs.size) (hq : qss.length = fs.size)
      (h : ∀ (j : Nat) (f : Field) (d : DataW H) (q : List PV), fs[j]? = some f → ds[j]? = some d → qss[j]? = some q → TV P f.type d q) : TV P t (.agg ds) qss.flatten
  | array {t n e} {ds : List (DataW H)} {qss : List (List PV)} (ht : P.underlying t = some (.array n e)) (hd : ds.length = n) (hq : qss.length = n)
      (h : ∀ (j : Nat) (d : DataW H) (q : List PV), ds[j]? = some d → qss[j]? = some q → TV P e d q) : TV P t (.agg ds) qss.flatten
  | other {t d} {qs : List PV} (h1 : P.underlying t ≠ some .bool) (h2 : ∀ k, P.underlying t ≠ some (.int k)) (h3 : P.underlying t ≠ some .string) (h4 : ∀ e, 0 < P.cellsOf e → P.underlying t ≠ some (.pointer e)) (h5 : ∀ e, 0 < P.cellsOf e → P.underlying t ≠ some (.slice e))
      (h6 : ∀ fs, P.underlying t ≠ some (.struct fs)) (h7 : ∀ n e, P.underlying t ≠ some (.array n e)) (hq : ∀ q ∈ qs, q = .junk) : TV P t d qs
def RepL (w : World) (cs : List Value) (qs : List PV) : Prop := qs.length = cs.length ∧ ∀ (i : Nat) (v : Value) (q : PV), cs[i]? = some v → qs[i]? = some q → Rep noG (fun _ => False) w v q
theorem RepL.one {w : World} {v : Value} {q : PV} (h : Rep noG (fun _ => False) w v q) : RepL w [v] [q] := ⟨rfl, fun i a b h1 h2 => by
  cases i with
  | zero => simp at h1 h2; subst h1 h2; exact h
  | succ i => simp at h1⟩
theorem RepL.append {w : World} {a b : List Value} {q r : List PV} (h : RepL w a q) (k : RepL w b r) : RepL w (a ++ b) (q ++ r) := by
  refine ⟨by simp [h.1, k.1], fun i v p h1 h2 => ?_⟩
  by_cases hi : i < a.length
  · rw [List.getElem?_append_left hi] at h1
    rw [List.getElem?_append_left (by rw [h.1]; exact hi)] at h2
    exact h.2 i v p h1 h2
  · rw [List.getElem?_append_right (by omega)] at h1
    rw [List.getElem?_append_right (by rw [h.1]; omega), h.1] at h2
    exact k.2 _ v p h1 h2
theorem repL_flatten {w : World} : ∀ (ns : List Nat) (qss : List (List PV)) (cs : List Value), qss.length = ns.length → (∀ (j n : Nat) (q : List PV), ns[j]? = some n → qss[j]? = some q → RepL w ((cs.drop (ns.take j).sum).take n) q) → cs.length = ns.sum → RepL w cs qss.flatten
  | [], [], cs, _, _, hl => by
    have : cs = [] := List.length_eq_zero_iff.1 (by simpa using hl)
    subst this
    exact ⟨rfl, fun i v q h => by simp at h⟩
  | n :: ns, q :: qss, cs, hl, h, hs => by
    have h0 := h 0 n q rfl rfl
    simp only [List.take_zero, List.sum_nil, List.drop_zero] at h0
    simp only [List.sum_cons] at hs
    have ih := repL_flatten ns qss (cs.drop n) (by simpa using hl) (fun j m r hj hr => by
      have := h (j + 1) m r (by simpa using hj) (by simpa using hr)
      rw [List.take_succ_cons, List.sum_cons] at this
      rwa [List.drop_drop]) (by simp; omega)
    have := h0.append ih
    rwa [List.take_append_drop] at this
  | [], _ :: _, _, hl, _, _ => by simp at hl
  | _ :: _, [], _, hl, _, _ => by simp at hl
theorem cells?_at {w : World} {base : Nat} {a : Addr} {n : Nat} {cs : List Value} (h : w.cells? base a n = some cs) : cs.length = n ∧ (∀ (i : Nat) (v : Value), cs[i]? = some v → cellAt w a.block (a.off + i) = some v) ∧ (0 < n → a.spot = none) := by
  obtain ⟨h1, h2, h3⟩ := World.cells?_some h
  have hs : 0 < n → a.spot = none := by
    intro hn
    have h0 := h3 0 hn
    have hx : w.cell? a = cs[0]? := by simpa [Addr.add] using h0
    unfold World.cell? at hx
    rw [List.getElem?_eq_getElem (show 0 < cs.length by omega)] at hx
    split at hx
    · split at hx
      · cases hx
      · rename_i hsp; cases hh : a.spot with
        | none => rfl
        | some s => rw [hh] at hsp; simp at hsp
    · cases hx
  refine ⟨h2, fun i v hv => ?_, hs⟩
  have hi : i < n := by rw [← h2]; exact (List.getElem?_eq_some_iff.1 hv).1
  have := h3 i hi
  rw [hv] at this
  have hsp := hs (by omega)
  unfold cellAt
  rw [← this]
  unfold Addr.add
  split
  · rename_i h0; subst h0; cases a; simp at hsp; subst hsp; rfl
  · cases a; simp at hsp; subst hsp; rfl
section
variable {H : Type} {enc : TypeId × Value → H} {P : Program} {W : World}
theorem trod_tv (hl : laidOutB P = true) : ∀ (fuel : Nat) (t : TypeId) (cs : List Value) (d : DataW H) (ps : List MemPlace), t < P.types.size → DataW.trod enc P W 0 (fun _ => true) true fuel t cs = some (d, ps) → ∃ qs, RepL W cs qs ∧ TV P t d qs
  | 0, t, cs, d, ps, ht, h => by simp [DataW.trod] at h
  | fuel + 1, t, cs, d, ps, ht, h => by
    have key : ∀ u, P.underlying t = u → ∃ qs, RepL W cs qs ∧ TV P t d qs := by
      intro u hu
      have junk : (∀ k, u ≠ some (.int k)) → u ≠ some .bool → u ≠ some .string → (∀ e, 0 < P.cellsOf e → u ≠ some (.pointer e)) → (∀ e, 0 < P.cellsOf e → u ≠ some (.slice e)) → (∀ fs, u ≠ some (.struct fs)) → (∀ n e, u ≠ some (.array n e)) → ∃ qs, RepL W cs qs ∧ TV P t d qs := by
        intro k1 k2 k3 k4 k5 k6 k7
        subst hu
        exact ⟨cs.map fun _ => .junk, ⟨by simp, fun i v q h1 h2 => by
          rw [List.getElem?_map, h1] at h2
          injection h2 with h2; subst h2; exact .junk v⟩, .other k2 k1 k3 k4 k5 k6 k7 (fun q hq => by simp at hq; exact hq.2.symm)⟩
      match u, hu with
      | some .bool, hu =>
        obtain ⟨b, rfl, hx⟩ := DataW.trod_bool hu h
        injection hx with h1 h2
        subst h1
        exact ⟨_, .one (.bool b), .bool hu⟩
      | some (.int k), hu =>
        obtain ⟨n, rfl, hx, hw⟩ := DataW.trod_int hu h
        injection hx with h1 h2
        subst h1
        exact ⟨_, .one (.int k n), .int hu hw⟩
      | some .string, hu =>
        obtain ⟨s, rfl, hx, hw⟩ := DataW.trod_string hu h
        injection hx with h1 h2
        subst h1
        have : s = ⟨s.data.toList.toArray⟩ := by
          cases s with
          | mk data => exact congrArg ByteArray.mk data.toArray_toList.symm
        refine ⟨[.str s.data.toList], .one ?_, .str hu (by rw [Array.length_toList]; exact hw)⟩
        have h3 := Rep.str (G := noG) (own := fun _ => False) (w := W) s.data.toList
        rwa [← this] at h3
      | some (.pointer e), hu =>
        by_cases hp : 0 < P.cellsOf e
        · rcases DataW.trod_pointer hu h with ⟨rfl, hx⟩ | ⟨a, cs', y, n, hf, rfl, hx, hc, hy⟩
          · injection hx with h1 h2
            subst h1
            exact ⟨_, .one .nilPtr, .nilPtr hu⟩
          · injection hx with h1 h2
            subst h1
            have hf' : n = fuel := by omega
            subst hf'
            obtain ⟨qs, hq1, hq2⟩ := trod_tv hl n e cs' y.1 y.2 (kid_pointer hl ht hu) hy
            obtain ⟨k1, k2, k3⟩ := cells?_at hc
            have hsp := k3 hp
            refine ⟨[.iptr qs 0], .one ?_, .ptr hu hp hq2⟩
            have ha : a = ⟨a.block, a.off + 0, none⟩ := by cases a; simp at hsp; subst hsp; rfl
            rw [ha]
            have hv : ∀ {i : Nat} {c : PV}, qs[i]? = some c → cs'[i]? = some (cs'.getD i undef) := fun {i c} hc => by
              have : i < cs'.length := by rw [← hq1.1]; exact (List.getElem?_eq_some_iff.1 hc).1
              simp [List.getD_eq_getElem?_getD, List.getElem?_eq_getElem this]
            exact .iptr qs 0 a.block a.off (fun i => cs'.getD i undef) (fun i c hc => ⟨k2 i _ (hv hc), fun h => h⟩) (fun i c hc => hq1.2 i _ c (hv hc) hc)
        · exact junk (by simp) (by simp) (by simp) (fun e' he' hh => by injection hh with hh; injection hh with hh; subst hh; exact hp he') (by simp) (by simp) (by simp)
      | some (.slice e), hu =>
        by_cases hp : 0 < P.cellsOf e
        · rcases DataW.trod_slice hu h with ⟨rfl, hx⟩ | ⟨a, len, cap, elems, rest, n, hf, rfl, hx, _, hlc, hcm, hel, helems, hrest, _⟩
          · injection hx with h1 h2
            subst h1
            exact ⟨_, .one .nilSl, .nilSl hu⟩
          · injection hx with h1 h2
            subst h1
            have hf' : n = fuel := by omega
            subst hf'
            have hke := kid_slice hl ht hu
            have each : ∀ i, i < len → ∃ vs q y, elems[i]? = some y ∧ W.cells? 0 (a.add (i * P.cellsOf e)) (P.cellsOf e) = some vs ∧ RepL W vs q ∧ TV P e y.1 q := by
              intro i hi
              have := helems i hi
              rw [List.getElem?_eq_getElem (by omega : i < elems.length)] at this
              obtain ⟨vs, e1, e2⟩ := Option.bind_eq_some_iff.1 this
              obtain ⟨q, e3, e4⟩ := trod_tv hl n e vs _ _ hke e2
              exact ⟨vs, q, _, List.getElem?_eq_getElem (by omega), e1, e3, e4⟩
            have hch : ∃ (V : Nat → List Value) (X : Nat → List PV), ∀ i, i < len → ∃ y : DataW H × List MemPlace, elems[i]? = some y ∧ W.cells? 0 (a.add (i * P.cellsOf e)) (P.cellsOf e) = some (V i) ∧ RepL W (V i) (X i) ∧ TV P e y.1 (X i) := by
              have : ∀ i : Nat, ∃ z : List Value × List PV, i < len → ∃ y : DataW H × List MemPlace, elems[i]? = some y ∧ W.cells? 0 (a.add (i * P.cellsOf e)) (P.cellsOf e) = some z.1 ∧ RepL W z.1 z.2 ∧ TV P e y.1 z.2 := by
                intro i
                by_cases hi : i < len
                · obtain ⟨vs, q, y, e1, e2, e3, e4⟩ := each i hi
                  exact ⟨(vs, q), fun _ => ⟨y, e1, e2, e3, e4⟩⟩
                · exact ⟨([], []), fun h => (hi h).elim⟩
              obtain ⟨f, hf⟩ := Classical.axiomOfChoice this
              exact ⟨fun i => (f i).1, fun i => (f i).2, hf⟩
            obtain ⟨V, X, hVX⟩ := hch
            have hsp : 0 < cap → a.spot = none := by
              intro hc
              by_cases h0 : 0 < len
              · obtain ⟨y, _, e2, _⟩ := hVX 0 h0
                have := (cells?_at e2).2.2 hp
                simpa [Addr.add] using this
              · obtain ⟨r1, r2⟩ := hrest rfl
                have := r2 0 (by omega)
                rw [List.getElem?_eq_getElem (by omega : 0 < rest.length)] at this
                obtain ⟨vs, e1, e2⟩ := Option.bind_eq_some_iff.1 this
                have h00 : (len + 0) * P.cellsOf e = 0 := by rw [show len + 0 = 0 by omega, Nat.zero_mul]
                rw [h00] at e1
                have := (cells?_at e1).2.2 hp
                simpa [Addr.add] using this
            have hxl : ((List.range len).map X).length = len := by simp
            have hxg : ∀ {j : Nat} {q : List PV}, ((List.range len).map X)[j]? = some q → j < len ∧ q = X j := by
              intro j q hj
              have hjl : j < len := by have := (List.getElem?_eq_some_iff.1 hj).1; simpa using this
              rw [List.getElem?_map, List.getElem?_range hjl] at hj
              injection hj with hj
              exact ⟨hjl, hj.symm⟩
            refine ⟨[.sl ((List.range len).map X) (decide (cap = len))], .one ?_, .sl hu hp (by simp [hel]) (by rw [hxl]; omega) (fun j q hj => ?_) (fun j d q hd hq => ?_)⟩
            · have h3 := Rep.sl (G := noG) (own := fun _ => False) (w := W) ((List.range len).map X) (decide (cap = len)) a.block a.off cap (P.cellsOf e) a (fun j i => (V j).getD i undef) (by rw [hxl]; exact hlc) (fun h => by rw [hxl]; simpa using h)
                (fun hc => by have := hsp hc; cases a; simp at this; subst this; rfl)
                (fun j q hj => by
                  obtain ⟨hjl, rfl⟩ := hxg hj
                  obtain ⟨y, _, e2, e3, _⟩ := hVX j hjl
                  rw [e3.1]; exact (cells?_at e2).1)
                (fun j q i c hj hi => by
                  obtain ⟨hjl, rfl⟩ := hxg hj
                  obtain ⟨y, _, e2, e3, _⟩ := hVX j hjl
                  have hil : i < (V j).length := by rw [← e3.1]; exact (List.getElem?_eq_some_iff.1 hi).1
                  have hv : (V j)[i]? = some ((V j).getD i undef) := by simp [List.getD_eq_getElem?_getD, List.getElem?_eq_getElem hil]
                  have := (cells?_at e2).2.1 i _ hv
                  refine ⟨?_, fun h => h⟩
                  have hadd : (a.add (j * P.cellsOf e)).block = a.block ∧ (a.add (j * P.cellsOf e)).off = a.off + j * P.cellsOf e := by
                    unfold Addr.add
                    split
                    · rename_i h0; rw [h0]; exact ⟨rfl, rfl⟩
                    · exact ⟨rfl, rfl⟩
                  rwa [hadd.1, hadd.2] at this)
                (fun j q i c hj hi => by
                  obtain ⟨hjl, rfl⟩ := hxg hj
                  obtain ⟨y, _, e2, e3, _⟩ := hVX j hjl
                  have hil : i < (V j).length := by rw [← e3.1]; exact (List.getElem?_eq_some_iff.1 hi).1
                  have hv : (V j)[i]? = some ((V j).getD i undef) := by simp [List.getD_eq_getElem?_getD, List.getElem?_eq_getElem hil]
                  exact e3.2 i _ c hv hi)
              rwa [hxl] at h3
            · obtain ⟨hjl, rfl⟩ := hxg hj
              obtain ⟨y, _, e2, e3, _⟩ := hVX j hjl
              rw [e3.1]; exact (cells?_at e2).1
            · obtain ⟨hjl, rfl⟩ := hxg hq
              obtain ⟨y, e1, e2, e3, e4⟩ := hVX j hjl
              rw [List.getElem?_map, e1] at hd
              injection hd with hd
              subst hd
              exact e4
        · exact junk (by simp) (by simp) (by simp) (by simp) (fun e' he' hh => by injection hh with hh; injection hh with hh; subst hh; exact hp he') (by simp) (by simp)
      | some (.struct fs), hu =>
        obtain ⟨xs, n, hf, hx, hcl, hxl, hfs⟩ := DataW.trod_struct hu h
        injection hx with h1 h2
        subst h1
        have hf' : n = fuel := by omega
        subst hf'
        obtain ⟨kf, kc, ko⟩ := kid_struct hl ht hu
        have hch : ∃ X : Nat → List PV, ∀ (i : Nat) (f : Field), fs[i]? = some f → ∃ y : DataW H × List MemPlace, xs[i]? = some y ∧ RepL W ((cs.drop f.offset).take (P.cellsOf f.type)) (X i) ∧ TV P f.type y.1 (X i) := by
          have : ∀ i : Nat, ∃ z : List PV, ∀ (f : Field), fs[i]? = some f → ∃ y : DataW H × List MemPlace, xs[i]? = some y ∧ RepL W ((cs.drop f.offset).take (P.cellsOf f.type)) z ∧ TV P f.type y.1 z := by
            intro i
            cases hfi : fs[i]? with
            | none => exact ⟨[], fun f h => by cases h⟩
            | some f =>
              have hi : i < fs.size := (Array.getElem?_eq_some_iff.1 hfi).1
              have := hfs i f hfi
              rw [List.getElem?_eq_getElem (by omega : i < xs.length)] at this
              obtain ⟨q, e3, e4⟩ := trod_tv hl n f.type _ _ _ (kf f (by
                rw [← Array.getElem?_toList] at hfi
                exact List.mem_of_getElem? hfi)) this
              exact ⟨q, fun f' hf' => by injection hf' with hf'; subst hf'; exact ⟨_, List.getElem?_eq_getElem (by omega), e3, e4⟩⟩
          obtain ⟨f, hf⟩ := Classical.axiomOfChoice this
          exact ⟨f, hf⟩
        obtain ⟨X, hX⟩ := hch
        have hxg : ∀ {j : Nat} {q : List PV}, ((List.range fs.size).map X)[j]? = some q → j < fs.size ∧ q = X j := by
          intro j q hj
          have hjl : j < fs.size := by have := (List.getElem?_eq_some_iff.1 hj).1; simpa using this
          rw [List.getElem?_map, List.getElem?_range hjl] at hj
          injection hj with hj
          exact ⟨hjl, hj.symm⟩
        refine ⟨((List.range fs.size).map X).flatten, ?_, .struct hu (by simpa using hxl) (by simp) (fun j f d q hf hd hq => ?_)⟩
        · refine repL_flatten (fs.toList.map fun f => P.cellsOf f.type) _ cs (by simp) (fun j m q hj hq => ?_) (by rw [hcl, kc])
          obtain ⟨hjl, rfl⟩ := hxg hq
          rw [List.getElem?_map] at hj
          obtain ⟨f, hfj, rfl⟩ := Option.map_eq_some_iff.1 hj
          have hfj' : fs[j]? = some f := by rw [← Array.getElem?_toList]; exact hfj
          obtain ⟨y, e1, e2, e3⟩ := hX j f hfj'
          rw [← List.map_take, ← ko j f hfj]
          exact e2
        · obtain ⟨hjl, rfl⟩ := hxg hq
          obtain ⟨y, e1, e2, e3⟩ := hX j f hf
          rw [List.getElem?_map, e1] at hd
          injection hd with hd
          subst hd
          exact e3
      | some (.array m e), hu =>
        obtain ⟨xs, n, hf, hx, hcl, hxl, hfs⟩ := DataW.trod_array hu h
        injection hx with h1 h2
        subst h1
        have hf' : n = fuel := by omega
        subst hf'
        obtain ⟨ke, kc⟩ := kid_array hl ht hu
        have hch : ∃ X : Nat → List PV, ∀ (i : Nat), i < m → ∃ y : DataW H × List MemPlace, xs[i]? = some y ∧ RepL W ((cs.drop (i * P.cellsOf e)).take (P.cellsOf e)) (X i) ∧ TV P e y.1 (X i) := by
          have : ∀ i : Nat, ∃ z : List PV, i < m → ∃ y : DataW H × List MemPlace, xs[i]? = some y ∧ RepL W ((cs.drop (i * P.cellsOf e)).take (P.cellsOf e)) z ∧ TV P e y.1 z := by
            intro i
            by_cases hi : i < m
            · have := hfs i hi
              rw [List.getElem?_eq_getElem (by omega : i < xs.length)] at this
              obtain ⟨q, e3, e4⟩ := trod_tv hl n e _ _ _ ke this
              exact ⟨q, fun _ => ⟨_, List.getElem?_eq_getElem (by omega), e3, e4⟩⟩
            · exact ⟨[], fun h => (hi h).elim⟩
          obtain ⟨f, hf⟩ := Classical.axiomOfChoice this
          exact ⟨f, hf⟩
        obtain ⟨X, hX⟩ := hch
        have hxg : ∀ {j : Nat} {q : List PV}, ((List.range m).map X)[j]? = some q → j < m ∧ q = X j := by
          intro j q hj
          have hjl : j < m := by have := (List.getElem?_eq_some_iff.1 hj).1; simpa using this
          rw [List.getElem?_map, List.getElem?_range hjl] at hj
          injection hj with hj
          exact ⟨hjl, hj.symm⟩
        refine ⟨((List.range m).map X).flatten, ?_, .array hu (by simpa using hxl) (by simp) (fun j d q hd hq => ?_)⟩
        · refine repL_flatten (List.replicate m (P.cellsOf e)) _ cs (by simp) (fun j k q hj hq => ?_) (by rw [hcl, kc]; simp)
          obtain ⟨hjl, rfl⟩ := hxg hq
          rw [List.getElem?_replicate, if_pos hjl] at hj
          injection hj with hj
          subst hj
          obtain ⟨y, e1, e2, e3⟩ := hX j hjl
          rw [List.take_replicate, Nat.min_eq_left (by omega)]
          simpa using e2
        · obtain ⟨hjl, rfl⟩ := hxg hq
          obtain ⟨y, e1, e2, e3⟩ := hX j hjl
          rw [List.getElem?_map, e1] at hd
          injection hd with hd
          subst hd
          exact e3
      | none, hu => exact junk (by simp) (by simp) (by simp) (by simp) (by simp) (by simp) (by simp)
      | some .invalid, hu => exact junk (by simp) (by simp) (by simp) (by simp) (by simp) (by simp) (by simp)
      | some (.float k), hu => exact junk (by simp) (by simp) (by simp) (by simp) (by simp) (by simp) (by simp)
      | some (.complex k), hu => exact junk (by simp) (by simp) (by simp) (by simp) (by simp) (by simp) (by simp)
      | some .unsafePointer, hu => exact junk (by simp) (by simp) (by simp) (by simp) (by simp) (by simp) (by simp)
      | some (.map k e), hu => exact junk (by simp) (by simp) (by simp) (by simp) (by simp) (by simp) (by simp)
      | some (.chan a b), hu => exact junk (by simp) (by simp) (by simp) (by simp) (by simp) (by simp) (by simp)
      | some (.func a b c), hu => exact junk (by simp) (by simp) (by simp) (by simp) (by simp) (by simp) (by simp)
      | some (.interface a), hu => exact junk (by simp) (by simp) (by simp) (by simp) (by simp) (by simp) (by simp)
      | some (.tuple a), hu => exact junk (by simp) (by simp) (by simp) (by simp) (by simp) (by simp) (by simp)
      | some (.named a b), hu => exact junk (by simp) (by simp) (by simp) (by simp) (by simp) (by simp) (by simp)
    exact key _ rfl
end
end Go.AM
set_option linter.unusedVariables false
set_option linter.unusedSimpArgs false
namespace Go.AM
open Go.RowKit Go.ChangeShapes Go.WideShapes Go.ChangeAt
def isAggT (P : Program) (t : TypeId) : Bool := match P.underlying t with
  | some (.struct _) => true
  | some (.array _ _) => true
  | _ => false
def AV {H : Type} (P : Program) (t : TypeId) (d : DataW H) (q : PV) : Prop :=
  if isAggT P t = true then ∃ qs, q = .agg qs ∧ TV P t d qs else TV P t d [q]
def AVs {H : Type} (P : Program) : List TypeId → List (DataW H) → List PV → Prop
  | [], [], [] => True
  | t :: ts, d :: ds, q :: qs => AV P t d q ∧ AVs P ts ds qs
  | _, _, _ => False
section
variable {H : Type} {enc : TypeId × Value → H} {P : Program} {W : World}
theorem cells_of_cell {v : Value} (h : ∀ cs, v ≠ .agg cs) : v.cells.toList = [v] := by
  cases v <;> first | rfl | (rename_i cs; exact (h cs rfl).elim)
theorem arg_av (hl : laidOutB P = true) {r : Reach} {base : Nat} {t : TypeId} (ht : t < P.types.size) {v : Value} {d : DataW H} {ps : List MemPlace} (hval : Value.okWide P W r base t v) (hd : DataW.Trod enc P W 0 (fun _ => true) true t v d ps) :
    ∃ q, Rep noG (fun _ => False) W v q ∧ AV P t d q := by
  obtain ⟨fuel, hf⟩ := hd
  obtain ⟨qs, hq1, hq2⟩ := trod_tv hl fuel t _ d ps ht hf
  unfold AV
  by_cases hg : isAggT P t = true
  · simp only [if_pos hg]
    have : ∃ cs, v = .agg cs := by
      unfold Value.okWide at hval
      unfold isAggT at hg
      split at hg
      · rename_i fs hu; rw [hu] at hval; obtain ⟨cs, h1, _⟩ := hval; exact ⟨cs, h1⟩
      · rename_i m e hu; rw [hu] at hval; obtain ⟨cs, h1, _⟩ := hval; exact ⟨cs, h1⟩
      · cases hg
    obtain ⟨cs, rfl⟩ := this
    refine ⟨.agg qs, .agg qs cs (by have := hq1.1; simp [Value.cells] at this; omega) (fun i c hc => ?_), qs, rfl, hq2⟩
    have hlt : i < cs.size := by have := (List.getElem?_eq_some_iff.1 hc).1; have h2 := hq1.1; simp [Value.cells] at h2; omega
    refine hq1.2 i _ c ?_ hc
    simp [Value.cells, Array.getD_eq_getD_getElem?, Array.getElem?_eq_getElem hlt, hlt]
  · simp only [if_neg hg]
    have hna : ∀ cs, v ≠ .agg cs := by
      rintro cs rfl
      have hc : Cell.okWide P W r base t (.agg cs) := by
        unfold Value.okWide at hval
        unfold isAggT at hg
        split at hval
        · rename_i fs hu; rw [hu] at hg; exact (hg rfl).elim
        · rename_i m e hu; rw [hu] at hg; exact (hg rfl).elim
        · exact hval
      unfold Cell.okWide at hc
      split at hc <;> first | (unfold Cell.ok at hc; split at hc <;> simp_all) | simp_all
    rw [cells_of_cell hna] at hq1
    match qs, hq1, hq2 with
    | [q], hq1, hq2 => exact ⟨q, hq1.2 0 v q rfl rfl, hq2⟩
    | [], hq1, _ => exact absurd hq1.1 (by simp)
    | _ :: _ :: _, hq1, _ => exact absurd hq1.1 (by simp)
theorem args_av (hl : laidOutB P = true) {r : Reach} {base : Nat} : ∀ {ts : List TypeId} {vs : List Value} {ds : List (DataW H)} {ps : List MemPlace}, (∀ t ∈ ts, t < P.types.size) →
    (∀ (j : Nat) (t : TypeId) (v : Value), ts[j]? = some t → vs[j]? = some v → Value.okWide P W r base t v) → DataW.TrodAll enc P W 0 (fun _ => true) true ts vs ds ps →
    ∃ qs : List PV, qs.length = vs.length ∧ (∀ (i : Nat) (v : Value) (q : PV), vs[i]? = some v → qs[i]? = some q → Rep noG (fun _ => False) W v q) ∧ AVs P ts ds qs
  | [], vs, ds, ps, ht, hv, h => by
    obtain ⟨rfl, rfl, rfl⟩ := trodAll_nil h
    exact ⟨[], rfl, fun i v q h => by simp at h, trivial⟩
  | t :: ts, vs, ds, ps, ht, hv, h => by
    obtain ⟨v, vs', d, ds', p, q, rfl, rfl, rfl, h1, h2⟩ := trodAll_cons h
    obtain ⟨x, hx1, hx2⟩ := arg_av hl (ht t (by simp)) (hv 0 t v rfl rfl) h1
    obtain ⟨xs, k1, k2, k3⟩ := args_av hl (ts := ts) (vs := vs') (fun t h => ht t (by simp [h])) (fun j t v hj hj' => hv (j + 1) t v (by simpa using hj) (by simpa using hj')) h2
    exact ⟨x :: xs, by simp [k1], fun i v q hi hq => by
      cases i with
      | zero => simp at hi hq; subst hi hq; exact hx1
      | succ i => exact k2 i v q (by simpa using hi) (by simpa using hq), hx2, k3⟩
theorem reread (hl : laidOutB P = true) {W' : World} (hb : Below W.heap.size W W') : ∀ {ts : List TypeId} {vs : List Value} {ds : List (DataW H)} {ps : List MemPlace}, (ts.all fun t => P.readableRec t && decide (t < P.types.size)) = true →
    DataW.TrodAll enc P W 0 (fun _ => true) true ts vs ds ps → (∀ x ∈ ps, x.block < W.heap.size) → DataW.TrodAll enc P W' 0 (fun b => decide (b < W.heap.size)) true ts vs ds ps
  | [], vs, ds, ps, ht, h, hlt => by
    obtain ⟨rfl, rfl, rfl⟩ := trodAll_nil h
    exact trodAll_mk0
  | t :: ts, vs, ds, ps, ht, h, hlt => by
    obtain ⟨v, vs', d, ds', p, q, rfl, rfl, rfl, h1, h2⟩ := trodAll_cons h
    simp only [List.all_cons, Bool.and_eq_true, decide_eq_true_eq] at ht
    exact trodAll_cons_mk (Below.trod hl ht.1.1 ht.1.2 h1 hb (fun x hx => hlt x (by simp [hx]))) (reread hl hb ht.2 h2 (fun x hx => hlt x (by simp [hx])))
theorem law_call [Gl] {f : FuncId} {args : Array Value} {qs : List PV} (hs : SemCall P f qs (.bool true)) (hl : qs.length = args.size) (hr : ∀ (i : Nat) (v : Value) (q : PV), args.toList[i]? = some v → qs[i]? = some q → Rep noG (fun _ => False) W v q) (hg : Gl.ok W := by exact True.intro) :
    Calls P f args W (fun e W' => e = .returned (.bool true) ∧ Below W.heap.size W W') := by
  refine (hs.2 (fun _ => False) W args (fun b h => h.elim) hg hl.symm (fun i c hc => ?_)).mono fun e W' ⟨u, he, hb, hu⟩ => ?_
  · have hlt : i < args.size := by have := (List.getElem?_eq_some_iff.1 hc).1; omega
    refine hr i _ c ?_ hc
    rw [Array.getElem?_toList, Array.getD_eq_getD_getElem?, Array.getElem?_eq_getElem hlt]
    rfl
  · subst he
    cases hu
    exact ⟨rfl, hb⟩
theorem av_cons {t : TypeId} {ts : List TypeId} {ds : List (DataW H)} {qs : List PV} (h : AVs P (t :: ts) ds qs) : ∃ d ds' q qs', ds = d :: ds' ∧ qs = q :: qs' ∧ AV P t d q ∧ AVs P ts ds' qs' := by
  match ds, qs, h with
  | d :: ds', q :: qs', h => exact ⟨d, ds', q, qs', rfl, rfl, h.1, h.2⟩
theorem av_nil {ds : List (DataW H)} {qs : List PV} (h : AVs P [] ds qs) : ds = [] ∧ qs = [] := by
  match ds, qs, h with
  | [], [], _ => exact ⟨rfl, rfl⟩
theorem av_of_tv {t : TypeId} {d : DataW H} {q : PV} (hg : isAggT P t = false) (h : AV P t d q) : TV P t d [q] := by
  unfold AV at h
  rwa [hg, if_neg (by simp)] at h
theorem av_agg {t : TypeId} {d : DataW H} {q : PV} (hg : isAggT P t = true) (h : AV P t d q) : ∃ qs, q = .agg qs ∧ TV P t d qs := by
  unfold AV at h
  rwa [if_pos hg] at h
theorem tv_int {t : TypeId} {k : IntKind} {d : DataW H} {qs : List PV} (hu : P.underlying t = some (.int k)) (h : TV P t d qs) : ∃ n, d = .lit (.int k n) ∧ qs = [.int k n] ∧ k.min ≤ n ∧ n ≤ k.max := by
  cases h with
  | @int _ k' n ht hw =>
    rw [hu] at ht; injection ht with ht; injection ht with ht; subst ht
    have : k.min ≤ n ∧ n ≤ k.max := by simpa [Lit.wf] using hw
    exact ⟨n, rfl, rfl, this.1, this.2⟩
  | other h1 h2 => exact absurd hu (h2 k)
  | _ => simp_all
theorem tv_str {t : TypeId} {d : DataW H} {qs : List PV} (hu : P.underlying t = some .string) (h : TV P t d qs) : ∃ s, d = .lit (.string s) ∧ qs = [.str s] ∧ s.length ≤ maxLen := by
  cases h with
  | str ht hs => exact ⟨_, rfl, rfl, hs⟩
  | other h1 h2 h3 => exact absurd hu h3
  | _ => simp_all
theorem tv_slice {t e : TypeId} {d : DataW H} {qs : List PV} (hu : P.underlying t = some (.slice e)) (hp : 0 < P.cellsOf e) (h : TV P t d qs) : (d = .nil ∧ qs = [.nilSl]) ∨ ∃ (ds rest : List (DataW H)) (xs : List (List PV)) (full : Bool), d = .slice ds rest ∧ qs = [.sl xs full] ∧ xs.length = ds.length ∧ xs.length ≤ maxLen ∧
    (∀ (j : Nat) (cs : List PV), xs[j]? = some cs → cs.length = P.cellsOf e) ∧ ∀ (j : Nat) (d : DataW H) (cs : List PV), ds[j]? = some d → xs[j]? = some cs → TV P e d cs := by
  cases h with
  | nilSl ht => exact .inl ⟨rfl, rfl⟩
  | sl ht hp' hl hm hc h =>
    rw [hu] at ht; injection ht with ht; injection ht with ht; subst ht
    exact .inr ⟨_, _, _, _, rfl, rfl, hl, hm, hc, h⟩
  | other h1 h2 h3 h4 h5 => exact absurd hu (h5 e hp)
  | _ => simp_all
theorem tv_struct {t : TypeId} {fs : Array Field} {d : DataW H} {qs : List PV} (hu : P.underlying t = some (.struct fs)) (h : TV P t d qs) : ∃ (ds : List (DataW H)) (qss : List (List PV)), d = .agg ds ∧ qs = qss.flatten ∧ ds.length = fs.size ∧ qss.length = fs.size ∧
    ∀ (j : Nat) (f : Field) (d : DataW H) (q : List PV), fs[j]? = some f → ds[j]? = some d → qss[j]? = some q → TV P f.type d q := by
  cases h with
  | struct ht hd hq h =>
    rw [hu] at ht; injection ht with ht; injection ht with ht; subst ht
    exact ⟨_, _, rfl, rfl, hd, hq, h⟩
  | other h1 h2 h3 h4 h5 h6 => exact absurd hu (h6 fs)
  | _ => simp_all
end
end Go.AM
set_option linter.unusedVariables false
set_option linter.unusedSimpArgs false
namespace Go.AM
open Go.RowKit
def lkF (f : Nat) : List (Nat × PF) → Option PF
  | [] => none
  | (k, p) :: r => match Nat.beq f k with
    | true => some p
    | false => lkF f r
theorem lkF_mem {f : Nat} {pf : PF} : ∀ {l : List (Nat × PF)}, lkF f l = some pf → (f, pf) ∈ l
  | [], h => by cases h
  | (k, p) :: r, h => by
    simp only [lkF] at h
    cases hb : Nat.beq f k with
    | true =>
      rw [hb] at h
      injection h with h
      subst h
      rw [Nat.eq_of_beq_eq_true hb]
      exact List.mem_cons_self
    | false => rw [hb] at h; exact List.mem_cons_of_mem _ (lkF_mem h)
theorem lkF_all {P : Program} {l : List (Nat × PF)} (h : ∀ x ∈ l, FnOK P x.1 x.2) : ∀ f pf, lkF f l = some pf → FnOK P f pf := fun f pf hf => h _ (lkF_mem hf)
theorem wrap_i64 (x : Int) : IntKind.i64.wrap x = (x + 9223372036854775808) % 18446744073709551616 - 9223372036854775808 := by
  unfold IntKind.wrap
  simp [IntKind.bits, IntKind.signed, Int.bmod_def]
  omega
theorem wrap_u64 (x : Int) : IntKind.u64.wrap x = x % 18446744073709551616 := by
  unfold IntKind.wrap
  simp [IntKind.bits, IntKind.signed]
theorem wrap_u8 (x : Int) : IntKind.u8.wrap x = x % 256 := by
  unfold IntKind.wrap
  simp [IntKind.bits, IntKind.signed]
section
variable {T : Tb} {Q : Post} {k : List Fr} {ρ : EC} {st : St} {l : List POp} {kill : List Nat}
theorem V_cEq {x : EX} {k' : List Fr} {c : Opd} {a b : PC} {α : Type} {y : α} [inst : Decidable (y = y)] (ha : adv 200 k x = (.code (.cond c a b) :: k', .normal)) (hc : c.get ρ = some (.bool (decide (y = y)))) (h1 : V T Q (.code a :: k') .normal ρ st) : V T Q k x ρ st := V_cT ha (by rw [hc]; simp) h1
theorem V_cNe {x : EX} {k' : List Fr} {c : Opd} {a b : PC} {α : Type} {y : α} [inst : Decidable (y = y)] (ha : adv 200 k x = (.code (.cond c a b) :: k', .normal)) (hc : c.get ρ = some (.bool (!decide (y = y)))) (h1 : V T Q (.code b :: k') .normal ρ st) : V T Q k x ρ st := V_cF ha (by rw [hc]; simp) h1
theorem O_gEq {d : Option Nat} {op : PI} {t : Nat} {α : Type} {y : α} [inst : Decidable (y = y)] (hg : ρ.get t = some (.bool (decide (y = y)))) (h1 : VO T Q (⟨d, none, op⟩ :: l) kill k (.put t (.bool true) ρ) st) : VO T Q (⟨d, some (t, true), op⟩ :: l) kill k ρ st := O_gS hg (fun _ => h1) (fun h => by simp at h)
theorem O_gNe {d : Option Nat} {op : PI} {t : Nat} {α : Type} {y : α} [inst : Decidable (y = y)] (hg : ρ.get t = some (.bool (!decide (y = y)))) (h1 : VO T Q (⟨d, none, op⟩ :: l) kill k (.put t (.bool false) ρ) st) : VO T Q (⟨d, some (t, false), op⟩ :: l) kill k ρ st := O_gS hg (fun _ => h1) (fun h => by simp at h)
end
end Go.AM
set_option linter.unusedVariables false
set_option linter.unusedSimpArgs false
namespace Go.AM
open Go.RowKit
def PE (P : EX → EC → St → Prop) : Post := fun x ρ st => ∃ e, Sub e ρ ∧ P x e st
section
variable {T : Tb} {Q : Post} {k : List Fr} {ρ : EC} {st : St} {l : List POp} {kill : List Nat} {P : EX → EC → St → Prop}
theorem V_endP {x x' : EX} (ha : adv 200 k x = ([], x')) (h : P x' ρ st) : V T (PE P) k x ρ st := V_end ha fun r hr => ⟨ρ, hr, h⟩
theorem V_cutP {c : PC} (h : V T (PE P) [.code c] .normal ρ st) (hk : ∀ x e st', P x e st' → V T Q k x e st') : V T Q (.code c :: k) .normal ρ st := fun r hr =>
  W_cut (h r hr) fun x ρ' st' ⟨e, he, hp⟩ => hk x e st' hp ρ' he
theorem V_monoP {P' : EX → EC → St → Prop} {x : EX} (h : V T (PE P) k x ρ st) (hP : ∀ x e st, P x e st → P' x e st) : V T (PE P') k x ρ st := fun r hr =>
  W_mono (fun x ρ st ⟨e, he, hp⟩ => ⟨e, he, hP x e st hp⟩) _ _ _ _ (h r hr)
theorem appendTo_nil {sz bytes : Nat} {src : List (List PV)} (hne : src ≠ []) (hr : src.length * bytes ≤ roomLen) : appendTo st sz bytes .nilSl src = some (.osl st.next 0 0 src.length false, st.new (.row 0 sz src true)) := by
  unfold appendTo
  rw [if_neg hne]
  simp only []
  rw [if_pos hr]
theorem appendTo_full {sz bytes : Nat} {xs src : List (List PV)} (hne : src ≠ []) (hr : (xs.length + src.length) * bytes ≤ roomLen) (ha : allOf sz xs = true) : appendTo st sz bytes (.sl xs true) src = some (.osl st.next 0 0 (xs.length + src.length) false, st.new (.row 0 sz (xs ++ src) true)) := by
  unfold appendTo
  rw [if_neg hne]
  simp only []
  rw [if_pos ⟨hr, ha⟩]
theorem appendTo_own {sz bytes t g : Nat} {es src : List (List PV)} (hne : src ≠ []) (hg : st.get t = some (.row g sz es true)) (hr : (es.length + src.length) * bytes ≤ roomLen) : appendTo st sz bytes (.osl t g 0 es.length false) src = some (.osl t (g + 1) 0 (es.length + src.length) false, st.put t (.row (g + 1) sz (es ++ src) true)) := by
  unfold appendTo
  rw [if_neg hne]
  simp only [hg]
  rw [if_pos (by refine ⟨?_, ?_, ?_, hr⟩ <;> first | trivial | omega)]
  simp
theorem appendTo_none {sz bytes : Nat} {s : PV} (hs : s = .nilSl ∨ (∃ xs f, s = .sl xs f) ∨ ∃ t g off len f, s = .osl t g off len f) : appendTo st sz bytes s [] = some (s, st) := by
  unfold appendTo
  rw [if_pos rfl]
  rcases hs with rfl | ⟨xs, f, rfl⟩ | ⟨t, g, off, len, f, rfl⟩ <;> rfl
theorem O_append {d : Option Nat} {sz bytes : Nat} {z : List PV} {s x : Opd} {p q r : PV} {src : List (List PV)} {st' : St} (hs : s.get ρ = some p) (hx : x.get ρ = some q) (hsrc : srcOf st q = some src) (hok : okEls sz src = true) (hsz : 0 < sz) (hby : 0 < bytes)
    (ha : appendTo st sz bytes p src = some (r, st')) (h : VO T Q l kill k (ρ.sets d r) st') : VO T Q (⟨d, none, .append sz bytes z s x⟩ :: l) kill k ρ st := by
  refine O_stepL ?_ h
  simp only [stepL, hs, hx, hsrc, Option.bind_some]
  rw [if_pos ⟨hok, hsz, hby⟩]
  exact ha
end
def Acc (sz : Nat) (st : St) (v : PV) (es : List (List PV)) : Prop := (v = .nilSl ∧ es = [] ∧ st = ⟨0, 0, []⟩) ∨ ∃ g, v = .osl 0 g 0 es.length false ∧ st = ⟨0, 1, [(0, .row g sz es true)]⟩
theorem Acc.append {sz bytes : Nat} {st : St} {v : PV} {es src : List (List PV)} (h : Acc sz st v es) (hne : src ≠ []) (hr : (es.length + src.length) * bytes ≤ roomLen) : ∃ v' st', appendTo st sz bytes v src = some (v', st') ∧ Acc sz st' v' (es ++ src) := by
  rcases h with ⟨rfl, rfl, rfl⟩ | ⟨g, rfl, rfl⟩
  · exact ⟨_, _, appendTo_nil hne (by simpa using hr), .inr ⟨0, by simp, rfl⟩⟩
  · refine ⟨_, _, appendTo_own (es := es) hne rfl hr, .inr ⟨g + 1, by simp, rfl⟩⟩
theorem Acc.view {sz : Nat} {st : St} {v : PV} {es : List (List PV)} (h : Acc sz st v es) (hp : ∀ cs ∈ es, ∀ c ∈ cs, Pl c) : View true st.get v (if es = [] ∧ st.next = 0 then .nilSl else .sl es false) := by
  rcases h with ⟨rfl, rfl, rfl⟩ | ⟨g, rfl, rfl⟩
  · exact .nilSl
  · rw [if_neg (by simp)]
    exact view_osl0 rfl (.inl rfl) rfl hp
end Go.AM
set_option linter.unusedVariables false
set_option linter.unusedSimpArgs false
namespace Go.AM
open Go.RowKit
theorem slice_hi {look : Nat → Option Tok} {sz : Nat} {k' : IntKind} {hi : Int} {xs : List (List PV)} {f : Bool} (ha : allOf sz xs = true) (h1 : 0 ≤ hi) (h2 : hi ≤ xs.length) :
    sliceSl? look sz none (some (.int k' hi)) none (.sl xs f) = some (.sl (xs.take hi.toNat) (f && hi.toNat == xs.length)) := by
  simp only [sliceSl?, lenOf, bound?, Option.bind_some]
  rw [if_pos (by omega)]
  simp [ha]
theorem slice_lo {look : Nat → Option Tok} {sz : Nat} {k : IntKind} {lo : Int} {xs : List (List PV)} {f : Bool} (ha : allOf sz xs = true) (h0 : 0 ≤ lo) (h2 : lo ≤ xs.length) :
    sliceSl? look sz (some (.int k lo)) none none (.sl xs f) = some (.sl (xs.drop lo.toNat) f) := by
  simp only [sliceSl?, lenOf, bound?, Option.bind_some]
  rw [if_pos (by omega)]
  simp [ha]
  rw [List.take_of_length_le (by simp)]
theorem slice_osl_lo {look : Nat → Option Tok} {sz t g off len : Nat} {k : IntKind} {lo : Int} {f lv : Bool} {es : List (List PV)} (hg : look t = some (.row g sz es lv)) (h0 : 0 ≤ lo) (h2 : lo ≤ len) :
    sliceSl? look sz (some (.int k lo)) none none (.osl t g off len f) = some (.osl t g (off + lo.toNat) (len - lo.toNat) f) := by
  simp only [sliceSl?, lenOf, bound?, Option.bind_some]
  rw [if_pos (by omega)]
  simp [hg]
section
variable {T : Tb} {Q : Post} {k : List Fr} {ρ : EC} {st : St} {l : List POp} {kill : List Nat}
theorem O_idx {d : Option Nat} {x i : Opd} {sz : Nat} {xs : List (List PV)} {f : Bool} {kk : IntKind} {n : Int} (cs : List PV) (hx : x.get ρ = some (.sl xs f)) (hi : i.get ρ = some (.int kk n)) (h0 : 0 ≤ n) (hc : xs[n.toNat]? = some cs) (hl : cs.length = sz) (h : VO T Q l kill k (ρ.sets d (.iptr cs 0)) st) : VO T Q (⟨d, none, .indexS x i sz⟩ :: l) kill k ρ st :=
  O_step (by simp only [stepQ, get2, hx, hi, indexed, indexS?]; rw [if_pos h0, hc]; simp [hl]) h
theorem O_idxOwn {d : Option Nat} {x i : Opd} {sz t g off len : Nat} {f lv : Bool} {es : List (List PV)} {kk : IntKind} {n : Int} (hx : x.get ρ = some (.osl t g off len f)) (hi : i.get ρ = some (.int kk n)) (hg : st.get t = some (.row g sz es lv)) (h0 : 0 ≤ n ∧ n < len) (h : VO T Q l kill k (ρ.sets d (.rptr t g (off + n.toNat) 0)) st) : VO T Q (⟨d, none, .indexS x i sz⟩ :: l) kill k ρ st :=
  O_step (by simp only [stepQ, get2, hx, hi, indexed, indexS?]; rw [if_pos h0, hg]; simp) h
theorem O_chr {d : Option Nat} {x i : Opd} {s : List UInt8} {kk : IntKind} {n : Int} (b : UInt8) (hx : x.get ρ = some (.str s)) (hi : i.get ρ = some (.int kk n)) (h0 : 0 ≤ n) (hc : s[n.toNat]? = some b) (h : VO T Q l kill k (ρ.sets d (.int .u8 b.toNat)) st) : VO T Q (⟨d, none, .indexStr x i⟩ :: l) kill k ρ st :=
  O_step (by simp only [stepQ, get2, hx, hi, indexed, indexStr?]; rw [if_pos h0, hc]; simp) h
end
theorem bytesOf_cells : ∀ s : List UInt8, bytesOf? (byteCells s) = some s
  | [] => rfl
  | b :: s => by
    show (bytesOf? (byteCells s)).map (UInt8.ofNat (Int.toNat (b.toNat : Int)) :: ·) = _
    rw [bytesOf_cells s]
    simp
theorem okEls_bytes (s : List UInt8) : okEls 1 (byteCells s) = true := by
  simp [okEls, byteCells, PV.one]
theorem allOf_bytes (s : List UInt8) : allOf 1 (byteCells s) = true := by
  simp [allOf, byteCells]
theorem byteCells_append (a b : List UInt8) : byteCells (a ++ b) = byteCells a ++ byteCells b := by simp [byteCells]
theorem byteCells_length (a : List UInt8) : (byteCells a).length = a.length := by simp [byteCells]
theorem byteCells_take (a : List UInt8) (n : Nat) : (byteCells a).take n = byteCells (a.take n) := by simp [byteCells]
theorem byteCells_drop (a : List UInt8) (n : Nat) : (byteCells a).drop n = byteCells (a.drop n) := by simp [byteCells]
inductive BV : PV → List UInt8 → Prop
  | nil : BV .nilSl []
  | sl (s : List UInt8) (full : Bool) : BV (.sl (byteCells s) full) s
theorem BV.pl {v : PV} {s : List UInt8} (h : BV v s) : Pl v := by
  cases h with
  | nil => exact .nilSl
  | sl s f => exact .sl _ _ (pl_bytes s)
theorem BV.elems {v : PV} {s : List UInt8} (h : BV v s) (look : Nat → Option Tok) : elemsOf look v = some (byteCells s) := by
  cases h <;> rfl
theorem BV.len {v : PV} {s : List UInt8} (h : BV v s) : lenOf v = some s.length := by
  cases h with
  | nil => rfl
  | sl s f => simp [lenOf, byteCells]
theorem BV.notStr {v : PV} {s : List UInt8} (h : BV v s) : isStr v = false := by cases h <;> rfl
section
variable {T : Tb} {Q : Post} {k : List Fr} {ρ : EC} {st : St} {l : List POp} {kill : List Nat}
theorem O_toStr {d : Option Nat} {x : Opd} {v : PV} {s : List UInt8} (hx : x.get ρ = some v) (hv : BV v s) (h : VO T Q l kill k (ρ.sets d (.str s)) st) : VO T Q (⟨d, none, .toStr x⟩ :: l) kill k ρ st :=
  O_step (by simp only [stepQ, get1, hx, hv.elems, Option.bind_some, bytesOf_cells, Option.map_some]) h
theorem O_lenB {d : Option Nat} {x : Opd} {v : PV} {s : List UInt8} (hx : x.get ρ = some v) (hv : BV v s) (h : VO T Q l kill k (ρ.sets d (.int .i64 s.length)) st) : VO T Q (⟨d, none, .len false x⟩ :: l) kill k ρ st :=
  O_step (by simp only [stepQ, get1, hx, hv.len, hv.notStr]; rfl) h
end
theorem BV.hi {v : PV} {s : List UInt8} (h : BV v s) (look : Nat → Option Tok) {k : IntKind} {m : Int} (h0 : 0 ≤ m) (h1 : m ≤ s.length) : ∃ v', sliceSl? look 1 none (some (.int k m)) none v = some v' ∧ BV v' (s.take m.toNat) := by
  cases h with
  | nil =>
    have : m = 0 := by simp at h1; omega
    subst this
    exact ⟨.nilSl, by simp [sliceSl?, lenOf, bound?], .nil⟩
  | sl s f => exact ⟨_, slice_hi (allOf_bytes s) h0 (by rw [byteCells_length]; exact h1), by rw [byteCells_take]; exact .sl _ _⟩
theorem BV.lo {v : PV} {s : List UInt8} (h : BV v s) (look : Nat → Option Tok) {k : IntKind} {m : Int} (h0 : 0 ≤ m) (h1 : m ≤ s.length) : ∃ v', sliceSl? look 1 (some (.int k m)) none none v = some v' ∧ BV v' (s.drop m.toNat) := by
  cases h with
  | nil =>
    have : m = 0 := by simp at h1; omega
    subst this
    exact ⟨.nilSl, by simp [sliceSl?, lenOf, bound?], .nil⟩
  | sl s f => exact ⟨_, slice_lo (allOf_bytes s) h0 (by rw [byteCells_length]; exact h1), by rw [byteCells_drop]; exact .sl _ _⟩
end Go.AM
set_option linter.unusedVariables false
set_option linter.unusedSimpArgs false
namespace Go.AM
open Go.RowKit
inductive LV {α : Type} (c : α → List PV) : PV → List α → Prop
  | nil : LV c .nilSl []
  | sl (l : List α) (full : Bool) : LV c (.sl (l.map c) full) l
section
variable {α : Type} {c : α → List PV} {v : PV} {l : List α}
theorem LV.pl (h : LV c v l) (hp : ∀ a ∈ l, ∀ x ∈ c a, Pl x) : Pl v := by
  cases h with
  | nil => exact .nilSl
  | sl l f =>
    refine .sl _ _ fun cs hcs x hx => ?_
    obtain ⟨a, ha, rfl⟩ := List.mem_map.1 hcs
    exact hp a ha x hx
theorem LV.elems (h : LV c v l) (look : Nat → Option Tok) : elemsOf look v = some (l.map c) := by cases h <;> rfl
theorem LV.len (h : LV c v l) : lenOf v = some l.length := by
  cases h with
  | nil => rfl
  | sl l f => simp [lenOf]
theorem LV.notStr (h : LV c v l) : isStr v = false := by cases h <;> rfl
theorem LV.src (h : LV c v l) (st : St) : srcOf st v = some (l.map c) := by cases h <;> rfl
theorem allOf_map {sz : Nat} (hs : ∀ a ∈ l, (c a).length = sz) : allOf sz (l.map c) = true := by
  simp only [allOf, List.all_eq_true, List.mem_map, forall_exists_index, and_imp, forall_apply_eq_imp_iff₂, beq_iff_eq]
  exact hs
theorem LV.lo (h : LV c v l) (look : Nat → Option Tok) {sz : Nat} (hs : ∀ a ∈ l, (c a).length = sz) {k : IntKind} {m : Int} (h0 : 0 ≤ m) (h1 : m ≤ l.length) : ∃ v', sliceSl? look sz (some (.int k m)) none none v = some v' ∧ LV c v' (l.drop m.toNat) := by
  cases h with
  | nil =>
    have : m = 0 := by simp at h1; omega
    subst this
    exact ⟨.nilSl, by simp [sliceSl?, lenOf, bound?], .nil⟩
  | sl s f => exact ⟨_, slice_lo (allOf_map hs) h0 (by simpa using h1), by rw [← List.map_drop]; exact .sl _ _⟩
theorem LV.hi (h : LV c v l) (look : Nat → Option Tok) {sz : Nat} (hs : ∀ a ∈ l, (c a).length = sz) {k : IntKind} {m : Int} (h0 : 0 ≤ m) (h1 : m ≤ l.length) : ∃ v', sliceSl? look sz none (some (.int k m)) none v = some v' ∧ LV c v' (l.take m.toNat) := by
  cases h with
  | nil =>
    have : m = 0 := by simp at h1; omega
    subst this
    exact ⟨.nilSl, by simp [sliceSl?, lenOf, bound?], .nil⟩
  | sl s f => exact ⟨_, slice_hi (allOf_map hs) h0 (by simpa using h1), by rw [← List.map_take]; exact .sl _ _⟩
end
section
variable {T : Tb} {Q : Post} {k : List Fr} {ρ : EC} {st : St} {l : List POp} {kill : List Nat} {α : Type} {c : α → List PV}
theorem O_lenL {d : Option Nat} {x : Opd} {v : PV} {s : List α} (hx : x.get ρ = some v) (hv : LV c v s) (h : VO T Q l kill k (ρ.sets d (.int .i64 s.length)) st) : VO T Q (⟨d, none, .len false x⟩ :: l) kill k ρ st :=
  O_step (by simp only [stepQ, get1, hx, hv.len, hv.notStr]; rfl) h
theorem O_idxL {d : Option Nat} {x i : Opd} {sz : Nat} {v : PV} {s : List α} {kk : IntKind} {n : Int} (a : α) (hx : x.get ρ = some v) (hv : LV c v s) (hi : i.get ρ = some (.int kk n)) (h0 : 0 ≤ n) (ha : s[n.toNat]? = some a) (hl : (c a).length = sz) (h : VO T Q l kill k (ρ.sets d (.iptr (c a) 0)) st) : VO T Q (⟨d, none, .indexS x i sz⟩ :: l) kill k ρ st := by
  cases hv with
  | nil => simp at ha
  | sl s f => exact O_idx (c a) hx hi h0 (by rw [List.getElem?_map, ha]; rfl) hl h
end
def tokOf : PV → Option Nat
  | .osl t _ _ _ _ => some t
  | _ => none
def AccT (sz : Nat) (st : St) (v : PV) (es : List (List PV)) : Prop := (v = .nilSl ∧ es = []) ∨ ∃ t g, v = .osl t g 0 es.length false ∧ st.get t = some (.row g sz es true) ∧ t < st.next
theorem AccT.append {sz bytes : Nat} {st : St} {v : PV} {es src : List (List PV)} (h : AccT sz st v es) (hne : src ≠ []) (hr : (es.length + src.length) * bytes ≤ roomLen) :
    ∃ v' st', appendTo st sz bytes v src = some (v', st') ∧ AccT sz st' v' (es ++ src) ∧ st'.base = st.base ∧ st.next ≤ st'.next ∧ (tokOf v' = tokOf v ∨ tokOf v = none ∧ tokOf v' = some st.next) ∧ ∀ u, tokOf v' ≠ some u → st'.get u = st.get u := by
  rcases h with ⟨rfl, rfl⟩ | ⟨t, g, rfl, hg, hlt⟩
  · refine ⟨_, _, appendTo_nil hne (by simpa using hr), .inr ⟨st.next, 0, by simp, by simp [St.get, St.new, getA_putA], by simp [St.new]⟩, rfl, by simp [St.new], .inr ⟨rfl, rfl⟩, fun u hu => ?_⟩
    simp only [St.get, St.new, getA_putA]
    rw [if_neg (fun e => hu (by rw [← e]; rfl))]
  · refine ⟨_, _, appendTo_own (es := es) hne hg hr, .inr ⟨t, g + 1, by simp, by simp [St.get, St.put, getA_putA], hlt⟩, rfl, Nat.le_refl _, .inl rfl, fun u hu => ?_⟩
    simp only [St.get, St.put, getA_putA]
    rw [if_neg (fun e => hu (by rw [← e]; rfl))]
theorem AccT.keep {sz : Nat} {st st' : St} {v' w : PV} {es : List (List PV)} (h : AccT sz st w es) (hn : st.next ≤ st'.next) (hk : ∀ u, tokOf v' ≠ some u → st'.get u = st.get u) (hd : ∀ u, tokOf w = some u → tokOf v' ≠ some u) : AccT sz st' w es := by
  rcases h with ⟨rfl, rfl⟩ | ⟨t, g, rfl, hg, hlt⟩
  · exact .inl ⟨rfl, rfl⟩
  · exact .inr ⟨t, g, rfl, by rw [hk t (hd t rfl)]; exact hg, by omega⟩
theorem AccT.apart {sz : Nat} {st : St} {v v' w : PV} {es : List (List PV)} (h : AccT sz st w es) (ht : tokOf v' = tokOf v ∨ tokOf v = none ∧ tokOf v' = some st.next) (hd : ∀ u, tokOf w = some u → tokOf v ≠ some u) : ∀ u, tokOf w = some u → tokOf v' ≠ some u := by
  intro u hu hv
  rcases ht with h1 | ⟨_, h1⟩
  · exact hd u hu (by rw [← h1]; exact hv)
  · rw [h1] at hv
    injection hv with hv
    subst hv
    rcases h with ⟨rfl, _⟩ | ⟨t, g, rfl, hg, hlt⟩
    · cases hu
    · injection hu with hu; omega
def Win (sz : Nat) (st : St) (v : PV) (es : List (List PV)) : Prop := (v = .nilSl ∧ es = []) ∨ ∃ t g off f rs lv, v = .osl t g off es.length f ∧ st.get t = some (.row g sz rs lv) ∧ off + es.length ≤ rs.length ∧ (rs.drop off).take es.length = es
theorem Win.len {sz : Nat} {st : St} {v : PV} {es : List (List PV)} (h : Win sz st v es) : lenOf v = some es.length ∧ isStr v = false := by
  rcases h with ⟨rfl, rfl⟩ | ⟨t, g, off, f, rs, lv, rfl, hg, hb, he⟩
  · exact ⟨rfl, rfl⟩
  · exact ⟨rfl, rfl⟩
theorem Win.tail {sz : Nat} {st : St} {v : PV} {e : List PV} {es : List (List PV)} {k : IntKind} (h : Win sz st v (e :: es)) : ∃ v', sliceSl? st.get sz (some (.int k 1)) none none v = some v' ∧ Win sz st v' es := by
  rcases h with ⟨rfl, h⟩ | ⟨t, g, off, f, rs, lv, rfl, hg, hb, he⟩
  · cases h
  · refine ⟨_, slice_osl_lo hg (by omega) (by simp; omega), .inr ⟨t, g, off + 1, f, rs, lv, by simp, hg, by simp at hb; omega, ?_⟩⟩
    rw [← List.drop_drop]
    have : (rs.drop off).take (es.length + 1) = e :: es := by simpa using he
    cases hd : rs.drop off with
    | nil => rw [hd] at this; simp at this
    | cons a r => rw [hd] at this; simp at this; simp; exact this.2
end Go.AM
set_option linter.unusedVariables false
set_option linter.unusedSimpArgs false
namespace Go.AM
open Go.RowKit
def VM (T : Tb) (Q : Post) (m : Nat) (A B : St) (k : Nat) (l : List POp) (kill : List Nat) (fr : List Fr) (e : EC) (st : St) : Prop :=
  ∀ ρ, Sub e ρ → ∃ ρ1 st1, T.R (.dl m A B k l ρ st ρ1 st1) ∧ W T Q fr .normal (dropA kill ρ1) st1
section
variable {T : Tb} {Q : Post} {k : List Fr} {ρ : EC} {st : St} {l : List POp} {kill : List Nat} {m j : Nat} {A B : St}
theorem V_M (m : Nat) (B : St) {x : EX} {k' : List Fr} (ha : adv 200 k x = (.code (.drawn l kill) :: k', .normal)) (h : VM T Q m st B 0 l kill k' ρ st) : V T Q k x ρ st := V_adv ha fun r hr => by
  obtain ⟨ρ1, st1, h1, h2⟩ := h r hr
  exact ⟨_, _, _, .drawnL _ _ _ _ _ _ _ _ h1, h2⟩
theorem M_nil (h : V T Q k .normal (.drop kill ρ) st) : VM T Q m A B j [] kill k ρ st := fun r hr => ⟨_, _, .dlNil _ _ _ _ _ _, h _ (hr.drop kill)⟩
theorem M_step {d : Option Nat} {op : PI} {p : PV} (hk : Nat.beq j m = false) (hs : st = A ∨ st = B) (hq : stepQ A.get ρ op = some p) (hq' : stepQ B.get ρ op = some p) (h : VM T Q m A B (j + 1) l kill k (ρ.sets d p) st) : VM T Q m A B j (⟨d, none, op⟩ :: l) kill k ρ st := fun r hr => by
  obtain ⟨ρ1, st1, h1, h2⟩ := h _ (hr.sets d p)
  exact ⟨_, _, .dlQuiet _ _ _ _ _ _ _ _ p _ _ (Nat.ne_of_beq_eq_false hk) hs rfl (fun s hs => by rcases hs with rfl | rfl; exact stepQ_quiet hr hq; exact stepQ_quiet hr hq') h1, h2⟩
theorem M_call {d : Option Nat} {f : Opd} {xs : List Opd} {g : Nat} {caps vals args : List PV} {r : PV} (hk : Nat.beq j m = false) (hs : st = A ∨ st = B) (hf : f.get ρ = some (.func g caps)) (hx : gets ρ xs = some vals) (hv : ViewL false A.get (vals ++ caps) args) (hv' : ViewL false B.get (vals ++ caps) args) (hc : T.R (.call g args r)) (h : VM T Q m A B (j + 1) l kill k (ρ.sets d r) st) : VM T Q m A B j (⟨d, none, .call f xs⟩ :: l) kill k ρ st := fun e he => by
  obtain ⟨ρ1, st1, h1, h2⟩ := h _ (he.sets d r)
  exact ⟨_, _, .dlCall _ _ _ _ _ _ _ _ _ _ _ _ _ _ _ _ (Nat.ne_of_beq_eq_false hk) hs rfl rfl (Opd.ev_of he hf) (fun s hs => by rw [gets_ev he hx]; rcases hs with rfl | rfl; exact hv; exact hv') hc h1, h2⟩
theorem M_loud {d : Option Nat} {op : PI} {p : PV} (hk : Nat.beq j m = true) (hq : stepL A ρ op = some (p, B)) (h : VM T Q m A B (j + 1) l kill k (ρ.sets d p) B) : VM T Q m A B j (⟨d, none, op⟩ :: l) kill k ρ A := fun r hr => by
  have := Nat.eq_of_beq_eq_true hk
  subst this
  obtain ⟨ρ1, st1, h1, h2⟩ := h _ (hr.sets d p)
  exact ⟨_, _, .dlLoud _ _ _ _ _ _ p _ _ rfl (stepL_loud hr hq) h1, h2⟩
theorem D_idxL {α : Type} {c : α → List PV} {d : Option Nat} {x i : Opd} {sz : Nat} {v : PV} {s : List α} {kk : IntKind} {n : Int} (a : α) (hx : x.get ρ = some v) (hv : LV c v s) (hi : i.get ρ = some (.int kk n)) (h0 : 0 ≤ n) (ha : s[n.toNat]? = some a) (hl : (c a).length = sz) (h : VD T Q l kill k (ρ.sets d (.iptr (c a) 0)) st) : VD T Q (⟨d, none, .indexS x i sz⟩ :: l) kill k ρ st := by
  cases hv with
  | nil => simp at ha
  | sl s f =>
    have hc : (s.map c)[n.toNat]? = some (c a) := by rw [List.getElem?_map, ha]; rfl
    exact D_step (by simp only [stepQ, get2, hx, hi, indexed, indexS?]; rw [if_pos h0, hc]; simp [hl]) h
end
end Go.AM
set_option linter.unusedVariables false
set_option linter.unusedSimpArgs false
namespace Go.AM
open Go.RowKit
section
variable [Gl]
theorem arr2 {vals : Array Value} (h : vals.size = 2) : vals = #[vals.getD 0 undef, vals.getD 1 undef] := by
  apply Array.ext
  · simp [h]
  · intro i h1 h2
    have : i = 0 ∨ i = 1 := by omega
    rcases this with rfl | rfl <;> simp [h]
theorem bytesNum : ∀ s : List UInt8, Lib.bytesOf (s.map fun b => (b.toNat : Int)) = s
  | [] => rfl
  | c :: s => by
    have := bytesNum s
    simp only [Lib.bytesOf, List.map_cons] at this ⊢
    rw [this]
    simp
theorem bytesOf_bv {P : Program} {F : Nat → Prop} {w : World} {v : Value} {p : PV} {s : List UInt8} (hr : Rep noG F w v p) (hb : BV p s) : (Extern.Bytes.bytesOf v).run P w = .ok ⟨s.toArray⟩ w := by
  cases hb with
  | nil => cases hr; rfl
  | sl s full =>
    cases hr with
    | sl xs full b o cap sz adr u hcap hfull hadr hsz hc hr =>
      simp only [Extern.Bytes.bytesOf]
      cases s with
      | nil => rfl
      | cons c s =>
        have hcap0 : 0 < cap := by simp [byteCells] at hcap; omega
        obtain rfl := hadr hcap0
        have hsz1 : sz = 1 := (hsz 0 [.int .u8 c.toNat] (by simp [byteCells])).symm
        subst hsz1
        have hl := Lib.run_loadBytesX (P := P) (w := w) ((c :: s).map fun b => (b.toNat : Int)) ⟨b, o, none⟩ .empty (fun j x hj => by
          rw [List.getElem?_map] at hj
          obtain ⟨y, hy, rfl⟩ := Option.map_eq_some_iff.1 hj
          have hcs : (byteCells (c :: s))[j]? = some [.int .u8 y.toNat] := by simp only [byteCells, List.getElem?_map, hy, Option.map_some]
          obtain ⟨h1, _⟩ := hc j _ 0 _ hcs rfl
          have h2 := rep_int (hr j _ 0 _ hcs rfl)
          rw [h2] at h1
          rw [← h1]
          simp only [cellAt, Addr.add]
          split
          · rename_i h0; subst h0; simp
          · simp)
        have h3 : ((c :: s).map fun b => (b.toNat : Int)).length = (byteCells (c :: s)).length := by simp [byteCells]
        rw [h3] at hl
        rw [hl]
        congr 2
        have := bytesNum (c :: s)
        rw [this]
        simp [ByteArray.empty, ByteArray.emptyWithCapacity]
        try rfl
theorem bytesOf_str {P : Program} {F : Nat → Prop} {w : World} {v : Value} {s : List UInt8} (hr : Rep noG F w v (.str s)) : (Extern.Bytes.bytesOf v).run P w = .ok ⟨s.toArray⟩ w := by
  rw [rep_str hr]
  rfl
section
variable {P : Program} {f : Nat} {fn : Func} (hf : P.funcs[f]? = some fn) (hname : (fn.name == "runtime.NumGoroutine") = false) (hb : fn.body.isNone = true) (hn : Extern.findNext fn = none)
include hf hname hb hn
theorem ext_compareB (he : Extern.find fn = some Extern.BytealgCompare.compare) {p q : PV} {a b : List UInt8} (hp : BV p a) (hq : BV q b) : SemExt P f [p, q] (.int .i64 (Lib.compareBytes a b)) := by
  intro F w vals hs hr
  have e := arr2 (by simpa using hs)
  have h0 := bytesOf_bv (P := P) (hr 0 p rfl) hp
  have h1 := bytesOf_bv (P := P) (hr 1 q rfl) hq
  refine ⟨_, w, ?_, .refl _ _, .int _ _⟩
  rw [run_callFunc_extern hf hname hb hn he, e]
  change Result.andThen (Sem.run P (do pure (goInt (Extern.BytealgCompare.cmp (← Extern.Bytes.bytesOf (vals.getD 0 undef)) (← Extern.Bytes.bytesOf (vals.getD 1 undef))))) w) _ = _
  simp only [Sem.run_bind, h0, h1, Result.andThen_ok, Sem.run_pure, Lib.cmp_eq]
  rfl
theorem ext_compareS (he : Extern.find fn = some Extern.BytealgCompare.compare) (a b : List UInt8) : SemExt P f [.str a, .str b] (.int .i64 (Lib.compareBytes a b)) := by
  intro F w vals hs hr
  have e := arr2 (by simpa using hs)
  have h0 := bytesOf_str (P := P) (hr 0 _ rfl)
  have h1 := bytesOf_str (P := P) (hr 1 _ rfl)
  refine ⟨_, w, ?_, .refl _ _, .int _ _⟩
  rw [run_callFunc_extern hf hname hb hn he, e]
  change Result.andThen (Sem.run P (do pure (goInt (Extern.BytealgCompare.cmp (← Extern.Bytes.bytesOf (vals.getD 0 undef)) (← Extern.Bytes.bytesOf (vals.getD 1 undef))))) w) _ = _
  simp only [Sem.run_bind, h0, h1, Result.andThen_ok, Sem.run_pure, Lib.cmp_eq]
  rfl
theorem ext_indexB (he : Extern.find fn = some Extern.BytealgIndexByte.indexByte) {p : PV} {a : List UInt8} (c : Int) (hp : BV p a) : SemExt P f [p, .int .u8 c] (.int .i64 (Lib.indexByte a c.toNat.toUInt8)) := by
  intro F w vals hs hr
  have e := arr2 (by simpa using hs)
  have h0 := bytesOf_bv (P := P) (hr 0 p rfl) hp
  have h1 := rep_int (hr 1 _ rfl)
  refine ⟨_, w, ?_, .refl _ _, .int _ _⟩
  rw [run_callFunc_extern hf hname hb hn he, e, h1]
  have h2 := Lib.run_indexByteString (P := P) ⟨a.toArray⟩ c w
  have h3 : (Extern.BytealgIndexByte.indexByte #[vals.getD 0 undef, .int .u8 c]).run P w = (Extern.BytealgIndexByte.indexByte #[.string ⟨a.toArray⟩, .int .u8 c]).run P w := by
    change Sem.run P (do
      let b ← Extern.Bytes.bytesOf (vals.getD 0 undef)
      let c ← Extern.Bytes.asByte (.int .u8 c)
      match (List.range b.size).find? fun i => b[i]! == c with
      | some i => pure (goInt i)
      | none => pure (goInt (-1))) w = Sem.run P (do
      let b ← Extern.Bytes.bytesOf (.string ⟨a.toArray⟩)
      let c ← Extern.Bytes.asByte (.int .u8 c)
      match (List.range b.size).find? fun i => b[i]! == c with
      | some i => pure (goInt i)
      | none => pure (goInt (-1))) w
    rw [Sem.run_bind, Sem.run_bind, h0]
    rfl
  rw [h3, h2]
  rfl
theorem ext_countB (he : Extern.find fn = some Extern.BytealgCount.count) {p : PV} {a : List UInt8} (c : Int) (hp : BV p a) : SemExt P f [p, .int .u8 c] (.int .i64 (a.count c.toNat.toUInt8 : Nat)) := by
  intro F w vals hs hr
  have e := arr2 (by simpa using hs)
  have h0 := bytesOf_bv (P := P) (hr 0 p rfl) hp
  have h1 := rep_int (hr 1 _ rfl)
  refine ⟨_, w, ?_, .refl _ _, .int _ _⟩
  rw [run_callFunc_extern hf hname hb hn he, e, h1]
  have h2 := Lib.run_countString (P := P) ⟨a.toArray⟩ c w
  have h3 : (Extern.BytealgCount.count #[vals.getD 0 undef, .int .u8 c]).run P w = (Extern.BytealgCount.count #[.string ⟨a.toArray⟩, .int .u8 c]).run P w := by
    change Sem.run P (do
      let b ← Extern.Bytes.bytesOf (vals.getD 0 undef)
      let c ← Extern.Bytes.asByte (.int .u8 c)
      pure (goInt (b.foldl (fun n x => if x == c then n + 1 else n) (0 : Nat)))) w = Sem.run P (do
      let b ← Extern.Bytes.bytesOf (.string ⟨a.toArray⟩)
      let c ← Extern.Bytes.asByte (.int .u8 c)
      pure (goInt (b.foldl (fun n x => if x == c then n + 1 else n) (0 : Nat)))) w
    rw [Sem.run_bind, Sem.run_bind, h0]
    rfl
  rw [h3, h2]
  rfl
end
end
section
variable {T : Tb} {Q : Post} {k : List Fr} {ρ : EC} {st : St} {l : List POp} {kill : List Nat}
theorem O_lenO {d : Option Nat} {x : Opd} {v : PV} {n : Nat} (hx : x.get ρ = some v) (hl : lenOf v = some n) (hs : isStr v = false) (h : VO T Q l kill k (ρ.sets d (.int .i64 n)) st) : VO T Q (⟨d, none, .len false x⟩ :: l) kill k ρ st :=
  O_step (by simp only [stepQ, get1, hx, hl, hs]; rfl) h
def At (sz : Nat) (v : PV) (n : Int) (cs : List PV) : Prop := 0 ≤ n ∧ cs.length = sz ∧ ∃ xs f, v = .sl xs f ∧ xs[n.toNat]? = some cs
theorem O_at {d : Option Nat} {x i : Opd} {sz : Nat} {v : PV} {kk : IntKind} {n : Int} {cs : List PV} (hx : x.get ρ = some v) (hi : i.get ρ = some (.int kk n)) (ha : At sz v n cs) (h : VO T Q l kill k (ρ.sets d (.iptr cs 0)) st) : VO T Q (⟨d, none, .indexS x i sz⟩ :: l) kill k ρ st := by
  obtain ⟨h0, hl, xs, f, rfl, hc⟩ := ha
  exact O_idx cs hx hi h0 hc hl h
theorem load_whole {look : Nat → Option Tok} {n : Nat} {cs : List PV} (hl : cs.length = n) : loadAt look n true (.iptr cs 0) = some (.agg cs) := by
  subst hl
  simp [loadAt, behind, slice?]
theorem O_loadA {d : Option Nat} {x : Opd} {n : Nat} {cs : List PV} (hx : x.get ρ = some (.iptr cs 0)) (hl : cs.length = n) (h : VO T Q l kill k (ρ.sets d (.agg cs)) st) : VO T Q (⟨d, none, .load n true x⟩ :: l) kill k ρ st :=
  O_step (by simp only [stepQ, get1, hx]; exact load_whole hl) h
theorem O_storeV {n : Nat} {a x : Opd} {p q : PV} {st' : St} (ha : a.get ρ = some p) (hx : x.get ρ = some q) (h1 : q.cells.all PV.one = true) (hl : q.cells.length = n) (hn : Nat.blt 0 n = true) (hs : storeAt st p q = some st') (h : VO T Q l kill k (ρ.sets none (.tuple [])) st') : VO T Q (⟨none, none, .store n a x⟩ :: l) kill k ρ st :=
  O_stepL (by
    have hn' : 0 < n := Nat.le_of_ble_eq_true hn
    simp only [stepL, ha, hx]
    rw [if_pos ⟨h1, hl, hn'⟩, hs]
    rfl) h
end
theorem pll_nil : ∀ cs ∈ ([] : List (List PV)), ∀ c ∈ cs, Pl c := fun cs h => by cases h
theorem pll_cons {a : List PV} {l : List (List PV)} (ha : ∀ c ∈ a, Pl c) (hl : ∀ cs ∈ l, ∀ c ∈ cs, Pl c) : ∀ cs ∈ a :: l, ∀ c ∈ cs, Pl c := fun cs h => by
  rcases List.mem_cons.1 h with rfl | h
  · exact ha
  · exact hl cs h
def ecOf : List (Nat × PV) → EC
  | [] => .nil
  | (t, p) :: l => .put t p (ecOf l)
def XCmpB (g f : Nat) (args : List PV) (r : PV) : Prop := f = g ∧ ∃ p q a b, args = [p, q] ∧ BV p a ∧ BV q b ∧ r = .int .i64 (Lib.compareBytes a b)
def XCmpS (g f : Nat) (args : List PV) (r : PV) : Prop := f = g ∧ ∃ a b, args = [.str a, .str b] ∧ r = .int .i64 (Lib.compareBytes a b)
def XIdxB (g f : Nat) (args : List PV) (r : PV) : Prop := f = g ∧ ∃ p a c, args = [p, .int .u8 c] ∧ BV p a ∧ r = .int .i64 (Lib.indexByte a c.toNat.toUInt8)
def XCntB (g f : Nat) (args : List PV) (r : PV) : Prop := f = g ∧ ∃ p a c, args = [p, .int .u8 c] ∧ BV p a ∧ r = .int .i64 (a.count c.toNat.toUInt8 : Nat)
section
variable [Gl]
variable {P : Program} {g : Nat} {fn : Func} (hf : P.funcs[g]? = some fn) (hname : (fn.name == "runtime.NumGoroutine") = false) (hb : fn.body.isNone = true) (hn : Extern.findNext fn = none)
include hf hname hb hn
theorem XCmpB.sem (he : Extern.find fn = some Extern.BytealgCompare.compare) {f : Nat} {args : List PV} {r : PV} (h : XCmpB g f args r) : SemExt P f args r := by
  obtain ⟨rfl, p, q, a, b, rfl, hp, hq, rfl⟩ := h
  exact ext_compareB hf hname hb hn he hp hq
theorem XCmpS.sem (he : Extern.find fn = some Extern.BytealgCompare.compare) {f : Nat} {args : List PV} {r : PV} (h : XCmpS g f args r) : SemExt P f args r := by
  obtain ⟨rfl, a, b, rfl, rfl⟩ := h
  exact ext_compareS hf hname hb hn he a b
theorem XIdxB.sem (he : Extern.find fn = some Extern.BytealgIndexByte.indexByte) {f : Nat} {args : List PV} {r : PV} (h : XIdxB g f args r) : SemExt P f args r := by
  obtain ⟨rfl, p, a, c, rfl, hp, rfl⟩ := h
  exact ext_indexB hf hname hb hn he c hp
theorem XCntB.sem (he : Extern.find fn = some Extern.BytealgCount.count) {f : Nat} {args : List PV} {r : PV} (h : XCntB g f args r) : SemExt P f args r := by
  obtain ⟨rfl, p, a, c, rfl, hp, rfl⟩ := h
  exact ext_countB hf hname hb hn he c hp
end
end Go.AM
set_option linter.unusedVariables false
set_option linter.unusedSimpArgs false
namespace Go.AM
open Go.RowKit
section
variable {T : Tb} {Q : Post} {k : List Fr} {ρ : EC} {st : St} {l : List POp} {kill : List Nat}
theorem O_storeR {a x : Opd} {t g i sz : Nat} {es : List (List PV)} {c : PV} {q : PV} (ha : a.get ρ = some (.rptr t g i 0)) (hx : x.get ρ = some q) (h1 : q.cells = [q]) (h2 : PV.one q = true) (hg : st.get t = some (.row g sz es true)) (hc : es[i]? = some [c]) (h : VO T Q l kill k (ρ.sets none (.tuple [])) (st.put t (.row g sz (es.set i [q]) true))) : VO T Q (⟨none, none, .store 1 a x⟩ :: l) kill k ρ st :=
  O_storeV ha hx (by rw [h1]; simp [h2]) (by rw [h1]; rfl) rfl (by
    simp only [storeAt, hg, hc, h1]
    simp [splice]) h
end
theorem byteCells_get {s : List UInt8} {i : Nat} {b : UInt8} (h : s[i]? = some b) : (byteCells s)[i]? = some [.int .u8 b.toNat] := by
  simp [byteCells, h]
theorem BV.at {v : PV} {s : List UInt8} (h : BV v s) {n : Int} (h0 : 0 ≤ n) {b : UInt8} (hb : s[n.toNat]? = some b) : At 1 v n [.int .u8 b.toNat] := by
  cases h with
  | nil => simp at hb
  | sl s f => exact ⟨h0, rfl, _, _, rfl, byteCells_get hb⟩
end Go.AM
set_option linter.unusedVariables false
set_option linter.unusedSimpArgs false
namespace Go.AM
open Go.RowKit
section
variable {T : Tb} {Q : Post} {k : List Fr} {ρ : EC} {st A B : St} {l : List POp} {kill : List Nat} {m j : Nat}
theorem O_make {d : Option Nat} {sz bytes : Nat} {zero : List PV} {len cap : Opd} {k1 k2 : IntKind} {n : Int} (hl : len.get ρ = some (.int k1 n)) (hc : cap.get ρ = some (.int k2 n)) (hz : zero.length = sz) (h0 : 0 ≤ n) (hr : n * bytes ≤ roomLen)
    (h : VO T Q l kill k (ρ.sets d (.osl st.next 0 0 n.toNat false)) (st.new (.row 0 sz (List.replicate n.toNat zero) true))) : VO T Q (⟨d, none, .makeSl sz zero bytes len cap⟩ :: l) kill k ρ st := by
  refine O_stepL ?_ h
  simp only [stepL, hl, hc]
  rw [if_pos ⟨hz, h0, Int.le_refl _, hr⟩]
theorem O_makeN {d : Option Nat} {sz bytes : Nat} {zero : List PV} {len cap : Opd} {k1 k2 : IntKind} {n : Int} {N : Nat} (hl : len.get ρ = some (.int k1 n)) (hc : cap.get ρ = some (.int k2 n)) (hn : n = (N : Int)) (hz : zero.length = sz) (hr : N * bytes ≤ roomLen)
    (h : VO T Q l kill k (ρ.sets d (.osl st.next 0 0 N false)) (st.new (.row 0 sz (List.replicate N zero) true))) : VO T Q (⟨d, none, .makeSl sz zero bytes len cap⟩ :: l) kill k ρ st := by
  subst hn
  exact O_make hl hc hz (by omega) (by exact_mod_cast hr) h
theorem O_storeP {a x : Opd} {t off : Nat} {cs ds : List PV} {q : PV} (ha : a.get ρ = some (.ptr t off)) (hx : x.get ρ = some q) (h1 : q.cells = [q]) (h2 : PV.one q = true) (hg : st.get t = some (.var cs)) (hl : off + 1 ≤ cs.length) (hd : cs.take off ++ q :: cs.drop (off + 1) = ds) (h : VO T Q l kill k (ρ.sets none (.tuple [])) (st.put t (.var ds))) : VO T Q (⟨none, none, .store 1 a x⟩ :: l) kill k ρ st :=
  O_storeV ha hx (by rw [h1]; simp [h2]) (by rw [h1]; rfl) rfl (by
    simp only [storeAt, hg, h1]
    rw [if_pos (by simpa using hl), ← hd]
    simp [splice]) h
theorem V_cH {x : EX} {k' : List Fr} {c : Opd} {a b : PC} {t : Bool} (ht : t = false) (ha : adv 200 k x = (.code (.cond c a b) :: k', .normal)) (hc : c.get ρ = some (.bool t)) (h1 : V T Q (.code b :: k') .normal ρ st) : V T Q k x ρ st := V_cF ha (by rw [hc, ht]) h1
theorem V_cHT {x : EX} {k' : List Fr} {c : Opd} {a b : PC} {t : Bool} (ht : t = true) (ha : adv 200 k x = (.code (.cond c a b) :: k', .normal)) (hc : c.get ρ = some (.bool t)) (h1 : V T Q (.code a :: k') .normal ρ st) : V T Q k x ρ st := V_cT ha (by rw [hc, ht]) h1
end
end Go.AM
set_option linter.unusedVariables false
set_option linter.unusedSimpArgs false
namespace Go.AM
open Go.RowKit
theorem storeAt_whole {st : St} {t : Nat} {cs ds : List PV} (hg : st.get t = some (.var cs)) (hl : cs.length = ds.length) : storeAt st (.ptr t 0) (.agg ds) = some (st.put t (.var ds)) := by
  have h0 : (PV.agg ds).cells = ds := rfl
  simp only [storeAt, hg]
  rw [if_pos (by rw [h0]; omega), h0]
  simp [splice, ← hl]
end Go.AM
set_option linter.unusedVariables false
set_option linter.unusedSimpArgs false
namespace Go.AM
open Go.RowKit
theorem St.get_new {st : St} {k : Tok} : (st.new k).get st.next = some k := by simp [St.get, St.new, getA_putA]
theorem St.get_new_old {st : St} {k : Tok} {u : Nat} (h : u < st.next) : (st.new k).get u = st.get u := by
  simp only [St.get, St.new, getA_putA]
  rw [if_neg (by omega)]
theorem St.get_put {st : St} {t : Nat} {k : Tok} : (st.put t k).get t = some k := by simp [St.get, St.put, getA_putA]
theorem St.get_put_old {st : St} {t u : Nat} {k : Tok} (h : t ≠ u) : (st.put t k).get u = st.get u := by
  simp only [St.get, St.put, getA_putA]
  rw [if_neg h]
def Grow (st : St) (v : PV) (st' : St) (v' : PV) : Prop := st'.base = st.base ∧ st.next ≤ st'.next ∧ (tokOf v' = tokOf v ∨ ∃ n, tokOf v' = some n ∧ st.next ≤ n) ∧ ∀ u, u < st.next → tokOf v ≠ some u → st'.get u = st.get u
theorem Grow.refl (st : St) (v : PV) : Grow st v st v := ⟨rfl, Nat.le_refl _, .inl rfl, fun _ _ _ => rfl⟩
theorem Grow.trans {st st1 st2 : St} {v v1 v2 : PV} (h : Grow st v st1 v1) (k : Grow st1 v1 st2 v2) : Grow st v st2 v2 := by
  obtain ⟨a1, a2, a3, a4⟩ := h
  obtain ⟨b1, b2, b3, b4⟩ := k
  refine ⟨b1.trans a1, Nat.le_trans a2 b2, ?_, fun u hu hv => ?_⟩
  · rcases b3 with b3 | ⟨n, b3, b5⟩
    · rcases a3 with a3 | ⟨n, a3, a5⟩
      · exact .inl (b3.trans a3)
      · exact .inr ⟨n, b3.trans a3, a5⟩
    · exact .inr ⟨n, b3, by omega⟩
  · rw [b4 u (by omega) ?_, a4 u hu hv]
    rcases a3 with a3 | ⟨n, a3, a5⟩
    · rw [a3]; exact hv
    · rw [a3]; intro e; injection e; omega
theorem AccT.grow {sz bytes : Nat} {st : St} {v : PV} {es src : List (List PV)} (h : AccT sz st v es) (hne : src ≠ []) (hr : (es.length + src.length) * bytes ≤ roomLen) :
    ∃ v' st', appendTo st sz bytes v src = some (v', st') ∧ AccT sz st' v' (es ++ src) ∧ Grow st v st' v' := by
  obtain ⟨v', st', h1, h2, h3, h4, h5, h6⟩ := h.append hne hr
  refine ⟨v', st', h1, h2, h3, h4, ?_, fun u hu hv => h6 u ?_⟩
  · rcases h5 with h5 | ⟨_, h5⟩
    · exact .inl h5
    · exact .inr ⟨_, h5, Nat.le_refl _⟩
  · rcases h5 with h5 | ⟨_, h5⟩
    · rw [h5]; exact hv
    · rw [h5]; intro e; injection e; omega
def RB (st : St) (v : PV) (s : List UInt8) : Prop := (v = .nilSl ∧ s = []) ∨ (∃ f, v = .sl (byteCells s) f) ∨ ∃ t g lv, v = .osl t g 0 (byteCells s).length false ∧ st.get t = some (.row g 1 (byteCells s) lv) ∧ t < st.next
theorem BV.rb {v : PV} {s : List UInt8} (h : BV v s) (st : St) : RB st v s := by
  cases h with
  | nil => exact .inl ⟨rfl, rfl⟩
  | sl s f => exact .inr (.inl ⟨f, rfl⟩)
theorem AccT.rb {st : St} {v : PV} {s : List UInt8} (h : AccT 1 st v (byteCells s)) : RB st v s := by
  rcases h with ⟨rfl, h⟩ | ⟨t, g, rfl, hg, hlt⟩
  · exact .inl ⟨rfl, by simpa [byteCells] using h⟩
  · exact .inr (.inr ⟨t, g, true, rfl, hg, hlt⟩)
theorem RB.src {st : St} {v : PV} {s : List UInt8} (h : RB st v s) : srcOf st v = some (byteCells s) := by
  rcases h with ⟨rfl, rfl⟩ | ⟨f, rfl⟩ | ⟨t, g, lv, rfl, hg, _⟩
  · rfl
  · rfl
  · simp only [srcOf, elemsOf, hg]
    rw [if_pos ⟨trivial, by omega⟩]
    simp
theorem RB.keep {st st' : St} {v : PV} {s : List UInt8} (h : RB st v s) (hn : st.next ≤ st'.next) (hk : ∀ u, tokOf v = some u → st'.get u = st.get u) : RB st' v s := by
  rcases h with ⟨rfl, rfl⟩ | ⟨f, rfl⟩ | ⟨t, g, lv, rfl, hg, hlt⟩
  · exact .inl ⟨rfl, rfl⟩
  · exact .inr (.inl ⟨f, rfl⟩)
  · exact .inr (.inr ⟨t, g, lv, rfl, by rw [hk t rfl]; exact hg, by omega⟩)
theorem RB.lt {st : St} {v : PV} {s : List UInt8} (h : RB st v s) {u : Nat} (hu : tokOf v = some u) : u < st.next := by
  rcases h with ⟨rfl, rfl⟩ | ⟨f, rfl⟩ | ⟨t, g, lv, rfl, hg, hlt⟩
  · cases hu
  · cases hu
  · injection hu with hu; omega
section
variable {T : Tb} {k : List Fr} {ρ : EC} {st : St} {l : List POp} {kill : List Nat}
theorem O_loadV {Q : Post} {d : Option Nat} {a : Opd} {t off : Nat} {cs : List PV} {c : PV} (ha : a.get ρ = some (.ptr t off)) (hg : st.get t = some (.var cs)) (hc : cs[off]? = some c) (h : VO T Q l kill k (ρ.sets d c) st) : VO T Q (⟨d, none, .load 1 false a⟩ :: l) kill k ρ st :=
  O_step (by
    have hlt := (List.getElem?_eq_some_iff.1 hc).1
    simp only [stepQ, get1, ha, loadAt, behind, hg, Option.bind_some, slice?]
    rw [if_pos (by omega)]
    simpa using hc) h
end
end Go.AM
set_option linter.unusedVariables false
set_option linter.unusedSimpArgs false
namespace Go.AM
open Go.RowKit
end Go.AM
set_option linter.unusedVariables false
set_option linter.unusedSimpArgs false
namespace Go.AM
open Go.RowKit
end Go.AM
set_option linter.unusedVariables false
set_option linter.unusedSimpArgs false
namespace Go.AM
open Go.RowKit
end Go.AM
set_option linter.unusedVariables false
set_option linter.unusedSimpArgs false
namespace Go.AM
open Go.RowKit
section
variable {T : Tb} {Q : Post} {k : List Fr} {ρ : EC} {st : St} {l : List POp} {kill : List Nat}
theorem O_is {d : Option Nat} {op : PI} {p p' : PV} (he : p = p') (hq : stepQ st.get ρ op = some p) (h : VO T Q l kill k (ρ.sets d p') st) : VO T Q (⟨d, none, op⟩ :: l) kill k ρ st := by
  subst he
  exact O_step hq h
theorem D_is {d : Option Nat} {op : PI} {p p' : PV} (he : p = p') (hq : stepQ st.get ρ op = some p) (h : VD T Q l kill k (ρ.sets d p') st) : VD T Q (⟨d, none, op⟩ :: l) kill k ρ st := by
  subst he
  exact D_step hq h
theorem dec_is {p : Prop} [Decidable p] (h : p) : PV.bool (decide p) = PV.bool true := by rw [decide_eq_true h]
theorem dec_not {p : Prop} [Decidable p] (h : ¬ p) : PV.bool (decide p) = PV.bool false := by rw [decide_eq_false h]
theorem ndec_is {p : Prop} [Decidable p] (h : p) : PV.bool (!decide p) = PV.bool false := by rw [decide_eq_true h]; rfl
theorem ndec_not {p : Prop} [Decidable p] (h : ¬ p) : PV.bool (!decide p) = PV.bool true := by rw [decide_eq_false h]; rfl
theorem int_is {k : IntKind} {a b : Int} (h : a = b) : PV.int k a = PV.int k b := by rw [h]
end
end Go.AM
set_option linter.unusedVariables false
set_option linter.unusedSimpArgs false
namespace Go.AM
open Go.RowKit
end Go.AM
set_option linter.unusedVariables false
set_option linter.unusedSimpArgs false
namespace Go.AM
open Go.RowKit
section
variable {T : Tb} {Q : Post} {k : List Fr} {ρ : EC} {st A B : St} {l : List POp} {kill : List Nat} {m j : Nat}
theorem O_cA {d : Option Nat} {f : Opd} {xs : List Opd} {g : Nat} {caps vals : List PV} {r : PV} (hf : f.get ρ = some (.func g caps)) (hx : gets ρ xs = some vals) (hc : T.R (.call g (vals ++ caps) r)) (h : VO T Q l kill k (ρ.sets d r) st)
    (hp : ∀ c ∈ vals ++ caps, Pl c := by (repeat' (first | exact Pl.int _ _ | exact Pl.bool _ | exact Pl.str _ | exact Pl.nilSl | exact pl_nil | refine pl_cons ?_ ?_ | refine Pl.tuple _ ?_ | refine Pl.agg _ ?_ | refine Pl.func _ _ ?_ | assumption | refine Pl.iptr _ _ ?_ | exact pll_nil | refine pll_cons ?_ ?_ | refine Pl.sl _ _ ?_)); first | done | fail) : VO T Q (⟨d, none, .call f xs⟩ :: l) kill k ρ st :=
  O_callP hf hx (viewL_pl hp) hc h
theorem D_cA {d : Option Nat} {f : Opd} {xs : List Opd} {g : Nat} {caps vals : List PV} {r : PV} (hf : f.get ρ = some (.func g caps)) (hx : gets ρ xs = some vals) (hc : T.R (.call g (vals ++ caps) r)) (h : VD T Q l kill k (ρ.sets d r) st)
    (hp : ∀ c ∈ vals ++ caps, Pl c := by (repeat' (first | exact Pl.int _ _ | exact Pl.bool _ | exact Pl.str _ | exact Pl.nilSl | exact pl_nil | refine pl_cons ?_ ?_ | refine Pl.tuple _ ?_ | refine Pl.agg _ ?_ | refine Pl.func _ _ ?_ | assumption | refine Pl.iptr _ _ ?_ | exact pll_nil | refine pll_cons ?_ ?_ | refine Pl.sl _ _ ?_)); first | done | fail) : VD T Q (⟨d, none, .call f xs⟩ :: l) kill k ρ st :=
  D_callP hf hx (viewL_pl hp) hc h
theorem V_fA {pf : PF} {Q : PV → Prop} {x : EX} {r : PV} (ha : adv 200 k x = ([], .ret)) (hr : resG ρ st.get pf.results = some r) (hq : Q r)
    (hp : Pl r := by (repeat' (first | exact Pl.int _ _ | exact Pl.bool _ | exact Pl.str _ | exact Pl.nilSl | exact pl_nil | refine pl_cons ?_ ?_ | refine Pl.tuple _ ?_ | refine Pl.agg _ ?_ | refine Pl.func _ _ ?_ | assumption | refine Pl.iptr _ _ ?_ | exact pll_nil | refine pll_cons ?_ ?_ | refine Pl.sl _ _ ?_)); first | done | fail) : V T (Ends pf Q) k x ρ st := V_fin ha hr hp.view hq
theorem V_fAN {pf : PF} {Q : PV → Prop} {x : EX} {r : PV} (ha : adv 200 k x = ([], .normal)) (hr : resG ρ st.get pf.results = some r) (hq : Q r)
    (hp : Pl r := by (repeat' (first | exact Pl.int _ _ | exact Pl.bool _ | exact Pl.str _ | exact Pl.nilSl | exact pl_nil | refine pl_cons ?_ ?_ | refine Pl.tuple _ ?_ | refine Pl.agg _ ?_ | refine Pl.func _ _ ?_ | assumption | refine Pl.iptr _ _ ?_ | exact pll_nil | refine pll_cons ?_ ?_ | refine Pl.sl _ _ ?_)); first | done | fail) : V T (Ends pf Q) k x ρ st := V_finN ha hr hp.view hq
end
end Go.AM
set_option linter.unusedVariables false
set_option linter.unusedSimpArgs false
namespace Go.AM
open Go.RowKit
def Got (e : EC) : List (Nat × PV) → Prop
  | [] => True
  | (t, p) :: l => e.get t = some p ∧ Got e l
theorem Got.get {e : EC} : ∀ {l : List (Nat × PV)}, Got e l → ∀ t p, (ecOf l).get t = some p → e.get t = some p
  | [], h, t, p, hp => by cases hp
  | (u, q) :: l, ⟨h1, h2⟩, t, p, hp => less_put h1 (fun t p h => Got.get h2 t p h) t p hp
section
variable {T : Tb} {Q : Post} {k : List Fr} {ρ : EC} {st : St} {P : EX → EC → St → Prop}
theorem V_to {x : EX} (l : List (Nat × PV)) (h : Got ρ l) (hv : V T Q k x (ecOf l) st) : V T Q k x ρ st := V_less (ecOf l) h.get hv
theorem V_re {x x' : EX} {k' : List Fr} {l : List (Nat × PV)} (ha : adv 200 k x = (k', x')) (hv : V T Q k' x' (ecOf l) st) (h : Got ρ l) : V T Q k x ρ st := V_adv ha (V_to l h hv)
theorem V_out {x x' : EX} (l : List (Nat × PV)) (ha : adv 200 k x = ([], x')) (h : Got ρ l) (hp : P x' (ecOf l) st) : V T (PE P) k x ρ st := V_to l h (V_endP ha hp)
theorem V_cutTo {c : PC} {x : EX} {k' : List Fr} {l : List (Nat × PV)} (ha : adv 200 k' x = (.code c :: k, .normal)) (h : V T (PE P) [.code c] .normal (ecOf l) st) (hl : Got ρ l) (hk : ∀ x e st', P x e st' → V T Q k x e st') : V T Q k' x ρ st := V_adv ha (V_to l hl (V_cutP h hk))
end
section
variable {T : Tb} {Q : Post} {k : List Fr} {ρ : EC} {st : St} {l : List POp} {kill : List Nat}
theorem O_cat {d : Option Nat} {x y : Opd} {a b : List UInt8} (hl : a.length + b.length ≤ 9223372036854775807) (hx : x.get ρ = some (.str a)) (hy : y.get ρ = some (.str b)) (h : VO T Q l kill k (ρ.sets d (.str (a ++ b))) st) : VO T Q (⟨d, none, .bin .add x y⟩ :: l) kill k ρ st :=
  O_step (by
    simp only [stepQ, get2, hx, hy, binOp?, binStr]
    rw [if_neg (by omega)]) h
end
theorem some_int {k : IntKind} {a b : Int} (h : a = b) : some (PV.int k a) = some (PV.int k b) := by rw [h]
end Go.AM
set_option linter.unusedVariables false
set_option linter.unusedSimpArgs false
namespace Go.AM
open Go.RowKit
def XIdxS (g f : Nat) (args : List PV) (r : PV) : Prop := f = g ∧ ∃ (a : List UInt8) (c : Int), args = [.str a, .int .u8 c] ∧ r = .int .i64 (Lib.indexByte a c.toNat.toUInt8)
def XCntS (g f : Nat) (args : List PV) (r : PV) : Prop := f = g ∧ ∃ (a : List UInt8) (c : Int), args = [.str a, .int .u8 c] ∧ r = .int .i64 (a.count c.toNat.toUInt8 : Nat)
section
variable [Gl]
variable {P : Program} {g : Nat} {fn : Func} (hf : P.funcs[g]? = some fn) (hname : (fn.name == "runtime.NumGoroutine") = false) (hb : fn.body.isNone = true) (hn : Extern.findNext fn = none)
include hf hname hb hn
theorem XIdxS.sem (he : Extern.find fn = some Extern.BytealgIndexByte.indexByte) {f : Nat} {args : List PV} {r : PV} (h : XIdxS g f args r) : SemExt P f args r := by
  obtain ⟨rfl, a, c, rfl, rfl⟩ := h
  intro F w vals hs hr
  have e := arr2 (by simpa using hs)
  have h0 := rep_str (hr 0 _ rfl)
  have h1 := rep_int (hr 1 _ rfl)
  refine ⟨_, w, ?_, .refl _ _, .int _ _⟩
  rw [run_callFunc_extern hf hname hb hn he, e, h0, h1, Lib.run_indexByteString (P := P) ⟨a.toArray⟩ c w]
  rfl
theorem XCntS.sem (he : Extern.find fn = some Extern.BytealgCount.count) {f : Nat} {args : List PV} {r : PV} (h : XCntS g f args r) : SemExt P f args r := by
  obtain ⟨rfl, a, c, rfl, rfl⟩ := h
  intro F w vals hs hr
  have e := arr2 (by simpa using hs)
  have h0 := rep_str (hr 0 _ rfl)
  have h1 := rep_int (hr 1 _ rfl)
  refine ⟨_, w, ?_, .refl _ _, .int _ _⟩
  rw [run_callFunc_extern hf hname hb hn he, e, h0, h1, Lib.run_countString (P := P) ⟨a.toArray⟩ c w]
  rfl
end
theorem V_st {T : Tb} {Q : Post} {k : List Fr} {x : EX} {e : EC} {st st' : St} (h : st = st') (hv : V T Q k x e st') : V T Q k x e st := h ▸ hv
end Go.AM
set_option linter.unusedVariables false
set_option linter.unusedSimpArgs false
namespace Go.AM
open Go.RowKit
theorem putA_putA {α : Type} {t : Nat} {x y : α} : ∀ l : List (Nat × α), putA t x (putA t y l) = putA t x l
  | [] => by simp [putA]
  | (k, v) :: r => by
    by_cases h : k = t
    · simp [putA, h]
    · simp [putA, h, putA_putA r]
theorem St.put_put {st : St} {t : Nat} {x y : Tok} : (st.put t y).put t x = st.put t x := by simp [St.put, putA_putA]
def St.two (A : St) (t : Nat) (cs : List PV) (o1 : Nat) (x1 : PV) (o2 : Nat) (x2 : PV) : Bool → Bool → St
  | false, false => A
  | true, false => A.put t (.var (cs.set o1 x1))
  | false, true => A.put t (.var (cs.set o2 x2))
  | true, true => A.put t (.var ((cs.set o1 x1).set o2 x2))
def VMI (T : Tb) (Q : Post) (m1 m2 : Nat) (S : Bool → Bool → St) (j : Nat) (l : List POp) (kill : List Nat) (fr : List Fr) (e : EC) (b c : Bool) : Prop :=
  ∀ ρ, Sub e ρ → ∃ ρ1 b1 c1, T.R (.dli m1 m2 S j l ρ b c ρ1 b1 c1) ∧ W T Q fr .normal (dropA kill ρ1) (S b1 c1)
theorem splice_set {cs : List PV} {o : Nat} {q : PV} (h : o < cs.length) : splice cs o [q] = cs.set o q := by
  unfold splice
  rw [List.set_eq_take_append_cons_drop, if_pos h]
  simp
theorem loud_store {A : St} {t o : Nat} {cs : List PV} {q : PV} {ρ : EC} {r0 : Env} {a x : Opd} (hr : Sub ρ r0) (ha : a.get ρ = some (.ptr t o)) (hx : x.get ρ = some q) (h1 : q.cells = [q]) (h2 : PV.one q = true) (hg : A.get t = some (.var cs)) (ho : o < cs.length) :
    loud A (Opd.ev r0) (.store 1 a x) = some (.tuple [], A.put t (.var (cs.set o q))) := by
  refine stepL_loud hr ?_
  simp only [stepL, ha, hx, h1]
  rw [if_pos ⟨by simp [h2], rfl, by omega⟩]
  simp only [storeAt, hg, h1]
  rw [if_pos (by simp only [List.length_singleton]; omega)]
  rw [splice_set ho]
  rfl
section
variable {T : Tb} {Q : Post} {m1 m2 j : Nat} {k : List Fr} {l : List POp} {kill : List Nat} {ρ : EC} {st : St}
theorem V_MI (m1 m2 : Nat) (S : Bool → Bool → St) {x : EX} {k' : List Fr} (hS : S false false = st) (ha : adv 200 k x = (.code (.drawn l kill) :: k', .normal)) (h : VMI T Q m1 m2 S 0 l kill k' ρ false false) : V T Q k x ρ st := V_adv ha fun r hr => by
  obtain ⟨ρ1, b1, c1, h1, h2⟩ := h r hr
  exact ⟨_, _, _, hS ▸ .drawnLi _ _ _ _ _ _ _ _ _ h1, h2⟩
theorem MI_nil {S : Bool → Bool → St} {b c : Bool} (h : V T Q k .normal (.drop kill ρ) (S b c)) : VMI T Q m1 m2 S j [] kill k ρ b c := fun r hr => ⟨_, _, _, .dliNil _ _ _ _ _ _ _, h _ (hr.drop kill)⟩
theorem MI_step {S : Bool → Bool → St} {b c : Bool} {d : Option Nat} {op : PI} {p : PV} (hk1 : Nat.beq j m1 = false) (hk2 : Nat.beq j m2 = false) (hq : stepQ (S false false).get ρ op = some p) (hq1 : stepQ (S true false).get ρ op = some p) (hq2 : stepQ (S false true).get ρ op = some p) (hq3 : stepQ (S true true).get ρ op = some p) (h : VMI T Q m1 m2 S (j + 1) l kill k (ρ.sets d p) b c) : VMI T Q m1 m2 S j (⟨d, none, op⟩ :: l) kill k ρ b c := fun r hr => by
  obtain ⟨ρ1, b1, c1, h1, h2⟩ := h _ (hr.sets d p)
  exact ⟨_, _, _, .dliQuiet _ _ _ _ _ _ _ _ _ p _ _ _ (Nat.ne_of_beq_eq_false hk1) (Nat.ne_of_beq_eq_false hk2) rfl (fun x y => by cases x <;> cases y; exact stepQ_quiet hr hq; exact stepQ_quiet hr hq2; exact stepQ_quiet hr hq1; exact stepQ_quiet hr hq3) h1, h2⟩
variable {A : St} {t o1 o2 : Nat} {cs : List PV} {x1 x2 : PV}
theorem MI_st1 {a x : Opd} {c : Bool} (hg : A.get t = some (.var cs)) (hk : Nat.beq j m1 = true) (ha : a.get ρ = some (.ptr t o1)) (hx : x.get ρ = some x1) (h1 : x1.cells = [x1]) (h2 : PV.one x1 = true) (hl : Nat.blt o1 cs.length = true) (hne : Nat.beq o1 o2 = false) (h : VMI T Q m1 m2 (A.two t cs o1 x1 o2 x2) (j + 1) l kill k (ρ.sets none (.tuple [])) true c) : VMI T Q m1 m2 (A.two t cs o1 x1 o2 x2) j (⟨none, none, .store 1 a x⟩ :: l) kill k ρ false c := fun r hr => by
  have := Nat.eq_of_beq_eq_true hk
  subst this
  have hl' : o1 < cs.length := by simpa using hl
  have hne' := Nat.ne_of_beq_eq_false hne
  obtain ⟨ρ1, b1, c1, k1, k2⟩ := h _ (hr.sets none (.tuple []))
  refine ⟨_, _, _, .dliLoud1 _ _ _ _ _ _ _ (.tuple []) _ _ _ rfl (fun y => ?_) k1, k2⟩
  cases y
  · exact loud_store hr ha hx h1 h2 hg hl'
  · have := loud_store (A := A.put t (.var (cs.set o2 x2))) (cs := cs.set o2 x2) hr ha hx h1 h2 (by simp [St.get, St.put, getA_putA]) (by simpa using hl')
    rw [St.put_put, List.set_comm _ _ (Ne.symm hne')] at this
    exact this
theorem MI_st2 {a x : Opd} {b : Bool} (hg : A.get t = some (.var cs)) (hk : Nat.beq j m2 = true) (ha : a.get ρ = some (.ptr t o2)) (hx : x.get ρ = some x2) (h1 : x2.cells = [x2]) (h2 : PV.one x2 = true) (hl : Nat.blt o2 cs.length = true) (h : VMI T Q m1 m2 (A.two t cs o1 x1 o2 x2) (j + 1) l kill k (ρ.sets none (.tuple [])) b true) : VMI T Q m1 m2 (A.two t cs o1 x1 o2 x2) j (⟨none, none, .store 1 a x⟩ :: l) kill k ρ b false := fun r hr => by
  have := Nat.eq_of_beq_eq_true hk
  subst this
  have hl' : o2 < cs.length := by simpa using hl
  obtain ⟨ρ1, b1, c1, k1, k2⟩ := h _ (hr.sets none (.tuple []))
  refine ⟨_, _, _, .dliLoud2 _ _ _ _ _ _ _ (.tuple []) _ _ _ rfl (fun y => ?_) k1, k2⟩
  cases y
  · exact loud_store hr ha hx h1 h2 hg hl'
  · have := loud_store (A := A.put t (.var (cs.set o1 x1))) (cs := cs.set o1 x1) hr ha hx h1 h2 (by simp [St.get, St.put, getA_putA]) (by simpa using hl')
    rw [St.put_put] at this
    exact this
end
end Go.AM
set_option linter.unusedVariables false
set_option linter.unusedSimpArgs false
namespace Go.AM
open Go.RowKit
def LR {α : Type} (R : α → List PV → Prop) (p : PV) (l : List α) : Prop :=
  (p = .nilSl ∧ l = []) ∨ ∃ xs full, p = .sl xs full ∧ l.length ≤ 140737488355328 ∧ xs.length = l.length ∧ ∀ (j : Nat) (a : α) (cs : List PV), l[j]? = some a → xs[j]? = some cs → R a cs
section
variable {α : Type} {R R' : α → List PV → Prop} {p : PV} {l : List α}
theorem LR.len (h : LR R p l) : lenOf p = some l.length ∧ isStr p = false ∧ l.length ≤ 140737488355328 := by
  rcases h with ⟨rfl, rfl⟩ | ⟨xs, full, rfl, hb, hl, h⟩
  · exact ⟨rfl, rfl, by simp⟩
  · exact ⟨by simp [lenOf, hl], rfl, hb⟩
theorem LR.at {sz : Nat} (h : LR R p l) (hs : ∀ a cs, R a cs → cs.length = sz) {j : Nat} {a : α} (hv : l[j]? = some a) : ∃ cs, At sz p j cs ∧ R a cs := by
  rcases h with ⟨rfl, rfl⟩ | ⟨xs, full, rfl, hb, hl, h⟩
  · simp at hv
  · have hlt : j < xs.length := by have := (List.getElem?_eq_some_iff.1 hv).1; omega
    have hc := h _ a _ hv (List.getElem?_eq_getElem hlt)
    exact ⟨_, ⟨by omega, hs _ _ hc, xs, full, rfl, by simp [hlt]⟩, hc⟩
theorem LR.pl (h : LR R p l) (hp : ∀ a ∈ l, ∀ cs, R a cs → ∀ c ∈ cs, Pl c) : Pl p := by
  rcases h with ⟨rfl, rfl⟩ | ⟨xs, full, rfl, hb, hl, h⟩
  · exact .nilSl
  · refine .sl _ _ fun cs hcs c hc => ?_
    obtain ⟨j, hj⟩ := List.getElem?_of_mem hcs
    have hlt : j < l.length := by have := (List.getElem?_eq_some_iff.1 hj).1; omega
    exact hp l[j] (List.getElem_mem _) cs (h j l[j] cs (List.getElem?_eq_getElem hlt) hj) c hc
theorem LR.mono (h : LR R p l) (hi : ∀ a ∈ l, ∀ cs, R a cs → R' a cs) : LR R' p l := by
  rcases h with ⟨rfl, rfl⟩ | ⟨xs, full, rfl, hb, hl, h⟩
  · exact .inl ⟨rfl, rfl⟩
  · exact .inr ⟨xs, full, rfl, hb, hl, fun j a cs h1 h2 => hi a (List.mem_of_getElem? h1) cs (h j a cs h1 h2)⟩
theorem LR.elems (h : LR R p l) (look : Nat → Option Tok) : ∃ xs, elemsOf look p = some xs ∧ xs.length = l.length ∧ ∀ (j : Nat) (a : α) (cs : List PV), l[j]? = some a → xs[j]? = some cs → R a cs := by
  rcases h with ⟨rfl, rfl⟩ | ⟨xs, full, rfl, hb, hl, h⟩
  · exact ⟨[], rfl, rfl, fun j a cs h1 => by simp at h1⟩
  · exact ⟨xs, rfl, hl, h⟩
theorem LR.map {β : Type} {R'' : β → List PV → Prop} {f : α → β} (h : LR R p l) (hi : ∀ a ∈ l, ∀ cs, R a cs → R'' (f a) cs) : LR R'' p (l.map f) := by
  rcases h with ⟨rfl, rfl⟩ | ⟨xs, full, rfl, hb, hl, h⟩
  · exact .inl ⟨rfl, rfl⟩
  · refine .inr ⟨xs, full, rfl, by simpa using hb, by simpa using hl, fun j b cs h1 h2 => ?_⟩
    rw [List.getElem?_map] at h1
    cases ha : l[j]? with
    | none => rw [ha] at h1; cases h1
    | some a =>
      rw [ha] at h1
      injection h1 with h1
      subst h1
      exact hi a (List.mem_of_getElem? ha) cs (h j a cs ha h2)
end
def AllPl : List (Nat × PV) → Prop
  | [] => True
  | (_, p) :: l => Pl p ∧ AllPl l
theorem AllPl.mem : ∀ {l : List (Nat × PV)}, AllPl l → ∀ x ∈ l, Pl x.2
  | [], h, x, hx => by cases hx
  | (u, q) :: l, ⟨h1, h2⟩, x, hx => by
    rcases List.mem_cons.1 hx with rfl | hx
    · exact h1
    · exact AllPl.mem h2 x hx
end Go.AM
set_option linter.unusedVariables false
set_option linter.unusedSimpArgs false
namespace Go.AM
open Go.RowKit
section
variable {H : Type} {P : Program}
structure BdOK (P : Program) (B : TypeId → DataW H → Prop) : Prop where
  str : ∀ {t : TypeId} {s : List UInt8}, B t (.lit (.string s)) → s.length ≤ 140737488355328
  sl : ∀ {t e : TypeId} {ds rest : List (DataW H)}, P.underlying t = some (.slice e) → 0 < P.bytesOf e → B t (.slice ds rest) → ds.length ≤ 140737488355328 ∧ ∀ d ∈ ds, B e d
  st : ∀ {t : TypeId} {fs : Array Field} {ds : List (DataW H)}, P.underlying t = some (.struct fs) → B t (.agg ds) → ∀ (j : Nat) (f : Field) (d : DataW H), fs[j]? = some f → ds[j]? = some d → B f.type d
def Wgt (P : Program) (t : TypeId) (d : DataW H) : Prop := (DataW.weights P t d).all (· ≤ reachBytes) = true
theorem wgt_all {e : TypeId} : ∀ {ds : List (DataW H)}, (DataW.weightsAll P e ds).all (· ≤ reachBytes) = true → ∀ d ∈ ds, Wgt P e d
  | [], _, d, h => by cases h
  | x :: r, h, d, hd => by
    simp only [DataW.weightsAll, List.all_append, Bool.and_eq_true] at h
    rcases List.mem_cons.1 hd with rfl | hd
    · exact h.1
    · exact wgt_all h.2 d hd
theorem wgt_each : ∀ {ts : List TypeId} {ds : List (DataW H)}, (DataW.weightsEach P ts ds).all (· ≤ reachBytes) = true → ∀ (j : Nat) (t : TypeId) (d : DataW H), ts[j]? = some t → ds[j]? = some d → Wgt P t d
  | [], _, _, j, t, d, h1, _ => by simp at h1
  | _ :: _, [], _, j, t, d, _, h2 => by simp at h2
  | t :: ts, x :: r, h, j, u, d, h1, h2 => by
    simp only [DataW.weightsEach, List.all_append, Bool.and_eq_true] at h
    cases j with
    | zero => injection h1 with h1; injection h2 with h2; subst h1 h2; exact h.1
    | succ j => exact wgt_each h.2 j u d (by simpa using h1) (by simpa using h2)
theorem wgt_ok : BdOK (H := H) P (Wgt P) where
  str := fun {t s} h => by
    simp only [Wgt, DataW.weights, List.all_cons, List.all_nil, Bool.and_true, decide_eq_true_eq] at h
    unfold reachBytes at h
    omega
  sl := fun {t e ds rest} hu hb h => by
    simp only [Wgt, DataW.weights, hu, List.all_cons, List.all_append, Bool.and_eq_true, decide_eq_true_eq] at h
    refine ⟨?_, wgt_all h.2.1⟩
    have h1 := h.1
    unfold reachBytes at h1
    have : ds.length * 1 ≤ (ds.length + rest.length) * P.bytesOf e := Nat.mul_le_mul (by omega) hb
    omega
  st := fun {t fs ds} hu h j f d h1 h2 => by
    simp only [Wgt, DataW.weights, hu] at h
    exact wgt_each h j f.type d (by rw [List.getElem?_map, Array.getElem?_toList, h1]; rfl) h2
variable {B : TypeId → DataW H → Prop}
theorem part_size {ds rest : List (DataW H)} {d : DataW H} (h : d ∈ ds) : SizeOf.sizeOf d < SizeOf.sizeOf (DataW.slice ds rest) := by
  have := List.sizeOf_lt_of_mem h
  simp
  omega
theorem lr_of {α : Type} [Inhabited α] {R : α → List PV → Prop} {t e : TypeId} {d : DataW H} {qs : List PV} (hB : BdOK P B) (hu : P.underlying t = some (.slice e)) (hp : 0 < P.cellsOf e) (hb : 0 < P.bytesOf e) (h : TV P t d qs) (hd : B t d)
    (ih : ∀ (x : DataW H) (cs : List PV), SizeOf.sizeOf x < SizeOf.sizeOf d → TV P e x cs → B e x → ∃ a, R a cs) : ∃ q l, qs = [q] ∧ LR R q l := by
  rcases tv_slice hu hp h with ⟨rfl, rfl⟩ | ⟨dl, rest, xs, full, rfl, rfl, hlen, _, _, helems⟩
  · exact ⟨_, [], rfl, .inl ⟨rfl, rfl⟩⟩
  · obtain ⟨h1, h2⟩ := hB.sl hu hb hd
    have hx : ∀ j : Nat, ∃ v, ∀ cs, xs[j]? = some cs → R v cs := fun j => by
      cases hj : xs[j]? with
      | none => exact ⟨default, fun cs h => by cases h⟩
      | some cs =>
        have hlt : j < dl.length := by have := (List.getElem?_eq_some_iff.1 hj).1; omega
        have hm : dl[j] ∈ dl := List.getElem_mem hlt
        obtain ⟨v, hv⟩ := ih dl[j] cs (part_size hm) (helems j _ cs (List.getElem?_eq_getElem hlt) hj) (h2 _ hm)
        exact ⟨v, fun cs' h => by injection h with h; subst h; exact hv⟩
    obtain ⟨f, hf⟩ := Classical.axiomOfChoice hx
    refine ⟨_, (List.range xs.length).map f, rfl, .inr ⟨xs, full, rfl, by simp; omega, by simp, fun j v cs hj hc => ?_⟩⟩
    have hlt := (List.getElem?_eq_some_iff.1 hc).1
    rw [List.getElem?_map, List.getElem?_range hlt] at hj
    simp only [Option.map_some, Option.some.injEq] at hj
    subst hj
    exact hf j cs hc
end
end Go.AM
set_option linter.unusedVariables false
set_option linter.unusedSimpArgs false
namespace Go.AM
open Go.RowKit
def AccP (sz : Nat) (st : St) (v : PV) (es : List (List PV)) : Prop := (v = .nilSl ∧ es = []) ∨ ∃ t g rs, v = .osl t g 0 es.length false ∧ st.get t = some (.row g sz rs true) ∧ rs.take es.length = es ∧ es.length ≤ rs.length
theorem AccP.app {sz bytes : Nat} {st : St} {v : PV} {es src : List (List PV)} (h : AccP sz st v es) (hr : (es.length + src.length) * bytes ≤ roomLen) : ∃ v' st', appendTo st sz bytes v src = some (v', st') ∧ AccP sz st' v' (es ++ src) := by
  by_cases hne : src = []
  · subst hne
    refine ⟨v, st, ?_, by rw [List.append_nil]; exact h⟩
    unfold appendTo
    rw [if_pos rfl]
    rcases h with ⟨rfl, _⟩ | ⟨t, g, rs, rfl, _⟩ <;> rfl
  · rcases h with ⟨rfl, rfl⟩ | ⟨t, g, rs, rfl, hg, ht, hl⟩
    · exact ⟨_, _, appendTo_nil hne (by simpa using hr), .inr ⟨st.next, 0, src, by simp, by simp [St.get, St.new, getA_putA], by simp, by simp⟩⟩
    · refine ⟨.osl t (g + 1) 0 (es.length + src.length) false, st.put t (.row (g + 1) sz (es ++ src) true), ?_, .inr ⟨t, g + 1, es ++ src, by simp, by simp [St.get, St.put, getA_putA], by rw [List.take_of_length_le (Nat.le_refl _)], Nat.le_refl _⟩⟩
      unfold appendTo
      rw [if_neg hne]
      simp only [hg]
      rw [if_pos ⟨trivial, trivial, by omega, hr⟩, List.drop_zero, ht]
theorem AccP.view {sz : Nat} {st : St} {v : PV} {es : List (List PV)} (h : AccP sz st v es) (hp : ∀ cs ∈ es, ∀ c ∈ cs, Pl c) : ∃ v', View true st.get v v' ∧ ((v' = .nilSl ∧ es = []) ∨ v' = .sl es false) := by
  rcases h with ⟨rfl, rfl⟩ | ⟨t, g, rs, rfl, hg, ht, hl⟩
  · exact ⟨.nilSl, .nilSl, .inl ⟨rfl, rfl⟩⟩
  · refine ⟨.sl es false, ?_, .inr rfl⟩
    have := view_osl (live := true) (full := false) hg (.inl rfl) (off := 0) (len := es.length) (by omega) (by rw [List.drop_zero, ht]; exact hp)
    rw [List.drop_zero, ht] at this
    exact this
end Go.AM
set_option linter.unusedVariables false
set_option linter.unusedSimpArgs false
namespace Go.AM
open Go.RowKit
def AB (st : St) (v : PV) (s : List UInt8) : Prop := v = .sl (byteCells s) true ∨ AccT 1 st v (byteCells s)
theorem AB.nil (st : St) : AB st .nilSl [] := .inr (.inl ⟨rfl, rfl⟩)
theorem AB.lit (st : St) (s : List UInt8) : AB st (.sl (byteCells s) true) s := .inl rfl
theorem AB.rb {st : St} {v : PV} {s : List UInt8} (h : AB st v s) : RB st v s := by
  rcases h with rfl | h
  · exact .inr (.inl ⟨_, rfl⟩)
  · exact h.rb
theorem AB.src {st : St} {v : PV} {s : List UInt8} (h : AB st v s) : srcOf st v = some (byteCells s) := h.rb.src
theorem AB.len {st : St} {v : PV} {s : List UInt8} (h : AB st v s) : lenOf v = some s.length ∧ isStr v = false := by
  rcases h with rfl | ⟨rfl, h⟩ | ⟨t, g, rfl, hg, hlt⟩
  · exact ⟨by simp [lenOf, byteCells], rfl⟩
  · have : s = [] := by simpa [byteCells] using h
    subst this
    exact ⟨rfl, rfl⟩
  · exact ⟨by simp [lenOf, byteCells], rfl⟩
theorem AB.lt {st : St} {v : PV} {s : List UInt8} (h : AB st v s) {u : Nat} (hu : tokOf v = some u) : u < st.next := h.rb.lt hu
theorem AB.keep {st st' : St} {v : PV} {s : List UInt8} (h : AB st v s) (hn : st.next ≤ st'.next) (hk : ∀ u, tokOf v = some u → st'.get u = st.get u) : AB st' v s := by
  rcases h with rfl | ⟨rfl, h⟩ | ⟨t, g, rfl, hg, hlt⟩
  · exact .inl rfl
  · exact .inr (.inl ⟨rfl, h⟩)
  · exact .inr (.inr ⟨t, g, rfl, by rw [hk t rfl]; exact hg, by omega⟩)
theorem AB.apart {st st' : St} {v w w' : PV} {s : List UInt8} (h : AB st v s) (g : Grow st w st' w') (hd : ∀ u, tokOf v = some u → tokOf w ≠ some u) : AB st' v s :=
  h.keep g.2.1 fun u hu => g.2.2.2 u (h.lt hu) (hd u hu)
theorem AB.app {st : St} {v : PV} {s : List UInt8} (h : AB st v s) {t : List UInt8} (hl : s.length + t.length ≤ 100000000000000) : ∃ v' st', appendTo st 1 1 v (byteCells t) = some (v', st') ∧ AB st' v' (s ++ t) ∧ Grow st v st' v' := by
  by_cases ht : t = []
  · subst ht
    refine ⟨v, st, ?_, by rw [List.append_nil]; exact h, .refl _ _⟩
    refine appendTo_none ?_
    rcases h with rfl | ⟨rfl, _⟩ | ⟨t, g, rfl, _⟩
    · exact .inr (.inl ⟨_, _, rfl⟩)
    · exact .inl rfl
    · exact .inr (.inr ⟨_, _, _, _, _, rfl⟩)
  · have hne : byteCells t ≠ [] := by simpa [byteCells] using ht
    rcases h with rfl | h
    · refine ⟨_, _, appendTo_full hne (by rw [byteCells_length, byteCells_length]; simp only [roomLen]; omega) (allOf_bytes s), .inr (.inr ⟨st.next, 0, by rw [byteCells_append, List.length_append], by rw [byteCells_append]; exact St.get_new, by simp [St.new]⟩), rfl, by simp [St.new], .inr ⟨st.next, rfl, Nat.le_refl _⟩, fun u hu _ => St.get_new_old hu⟩
    · obtain ⟨v', st', h1, h2, h3⟩ := h.grow (bytes := 1) hne (by rw [byteCells_length, byteCells_length]; simp only [roomLen]; omega)
      exact ⟨v', st', h1, .inr (by rw [byteCells_append]; exact h2), h3⟩
theorem AB.view {st : St} {v : PV} {s : List UInt8} (h : AB st v s) : ∃ v', View true st.get v v' ∧ BV v' s := by
  rcases h with rfl | ⟨rfl, h⟩ | ⟨t, g, rfl, hg, hlt⟩
  · exact ⟨_, (Pl.sl _ _ (pl_bytes s)).view, .sl s true⟩
  · have : s = [] := by simpa [byteCells] using h
    subst this
    exact ⟨.nilSl, .nilSl, .nil⟩
  · exact ⟨.sl (byteCells s) false, view_osl0 hg (.inl rfl) rfl (pl_bytes s), .sl s false⟩
theorem AB.okEls {t : List UInt8} : Go.AM.okEls 1 (byteCells t) = true := okEls_bytes t
def MakesB (T : Tb) (f : Nat) (args : List PV) (t : List UInt8) : Prop := ∀ st : St, st.base = st.next → ∃ v' st', T.R (.raw f args st v' st') ∧ AB st' v' t ∧ Grow st .nilSl st' v'
theorem call_of_raw {T : Tb} {f : Nat} {args : List PV} {v r : PV} {st' : St} (h : T.R (.raw f args emptySt v st')) (hv : View true st'.get v r) : T.R (.call f args r) := by
  cases h with
  | raw f pf args st x ρ' st' r hf hn h hx hr => exact .call _ _ _ _ _ _ _ _ hf hn h hx hr hv
theorem MakesB.call {T : Tb} {f : Nat} {args : List PV} {t : List UInt8} (h : MakesB T f args t) : ∃ q, T.R (.call f args q) ∧ BV q t := by
  obtain ⟨v', st', h1, h2, h3⟩ := h emptySt rfl
  obtain ⟨q, k1, k2⟩ := h2.view
  exact ⟨q, call_of_raw h1 k1, k2⟩
end Go.AM
set_option linter.unusedVariables false
set_option linter.unusedSimpArgs false
namespace Go.AM
open Go.RowKit
end Go.AM
set_option linter.unusedVariables false
set_option linter.unusedSimpArgs false
namespace Go.AM
open Go.RowKit
def Bx.at (C : Bx) : Bool → St
  | false => C.A
  | true => C.B
end Go.AM
set_option linter.unusedVariables false
set_option linter.unusedSimpArgs false
namespace Go.AM
open Go.RowKit
theorem SeenL.refl (st : St) (cs : List PV) : SeenL st cs cs := ⟨rfl, fun i c d h1 h2 => by rw [h1] at h2; injection h2 with h2; exact .inl h2⟩
theorem SeenT.refl (st : St) : ∀ k : Tok, SeenT st k k
  | .var cs => SeenL.refl st cs
  | .row g sz es lv => ⟨rfl, rfl, rfl, rfl, fun j cs ds h1 h2 => by rw [h1] at h2; injection h2 with h2; subst h2; exact SeenL.refl st cs⟩
  | .mp es => rfl
theorem SeenL.nil (st : St) : SeenL st [] [] := SeenL.refl st []
theorem SeenL.cons {st : St} {c d : PV} {cs ds : List PV} (h : SeenV st c d) (k : SeenL st cs ds) : SeenL st (c :: cs) (d :: ds) :=
  ⟨by simp [k.1], fun i x y h1 h2 => by
    cases i with
    | zero => simp at h1 h2; subst h1 h2; exact h
    | succ i => simp at h1 h2; exact k.2 i x y h1 h2⟩
end Go.AM
set_option linter.unusedVariables false
set_option linter.unusedSimpArgs false
namespace Go.AM
open Go.RowKit
end Go.AM
