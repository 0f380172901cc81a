/- AM25: what the rows hand in, as plain values. -/
import Derived.Test.YthoknkogdldgcaaAm24
import Derived.WalkKit
import Derived.ProofKit
import Derived.OpenShut
import Derived.ChangeOld
import Derived.SizedLaws
import Derived.ChangeBears
import Derived.Carry
set_option linter.unusedVariables false
set_option linter.unusedSimpArgs false
namespace Go.AM
open Go.RowKit Go.ChangeShapes Go.WideShapes Go.ChangeAt

/-- A reading of a type, and its plain value: cells. -/
inductive TV {H : Type} (P : Program) : TypeId → DataW H → List PV → Prop
  | bool {t b} (ht : P.underlying t = some .bool) : TV P t (.lit (.bool b)) [.bool b]
  | int {t k n} (ht : P.underlying t = some (.int k)) (hw : (Lit.int k n).wf = true) : TV P t (.lit (.int k n)) [.int k n]
  | str {t} {s : List UInt8} (ht : P.underlying t = some .string) (hs : s.length ≤ maxLen) : TV P t (.lit (.string s)) [.str s]
  | nilPtr {t e} (ht : P.underlying t = some (.pointer e)) : TV P t .nil [.nilPtr]
  | ptr {t e d cs} (ht : P.underlying t = some (.pointer e)) (hp : 0 < P.cellsOf e) (h : TV P e d cs) : TV P t (.ptr d) [.iptr cs 0]
  | nilSl {t e} (ht : P.underlying t = some (.slice e)) : TV P t .nil [.nilSl]
  | sl {t e} {ds rest : List (DataW H)} {xs : List (List PV)} {full : Bool} (ht : P.underlying t = some (.slice e)) (hp : 0 < P.cellsOf e) (hl : xs.length = ds.length) (hm : xs.length ≤ maxLen) (hc : ∀ (j : Nat) (cs : List PV), xs[j]? = some cs → cs.length = P.cellsOf e)
      (h : ∀ (j : Nat) (d : DataW H) (cs : List PV), ds[j]? = some d → xs[j]? = some cs → TV P e d cs) : TV P t (.slice ds rest) [.sl xs full]
  | struct {t fs} {ds : List (DataW H)} {qss : List (List PV)} (ht : P.underlying t = some (.struct fs)) (hd : ds.length = fs.size) (hq : qss.length = fs.size)
      (h : ∀ (j : Nat) (f : Field) (d : DataW H) (q : List PV), fs[j]? = some f → ds[j]? = some d → qss[j]? = some q → TV P f.type d q) : TV P t (.agg ds) qss.flatten
  | array {t n e} {ds : List (DataW H)} {qss : List (List PV)} (ht : P.underlying t = some (.array n e)) (hd : ds.length = n) (hq : qss.length = n)
      (h : ∀ (j : Nat) (d : DataW H) (q : List PV), ds[j]? = some d → qss[j]? = some q → TV P e d q) : TV P t (.agg ds) qss.flatten
  | other {t d} {qs : List PV} (h1 : P.underlying t ≠ some .bool) (h2 : ∀ k, P.underlying t ≠ some (.int k)) (h3 : P.underlying t ≠ some .string) (h4 : ∀ e, 0 < P.cellsOf e → P.underlying t ≠ some (.pointer e)) (h5 : ∀ e, 0 < P.cellsOf e → P.underlying t ≠ some (.slice e))
      (h6 : ∀ fs, P.underlying t ≠ some (.struct fs)) (h7 : ∀ n e, P.underlying t ≠ some (.array n e)) (hq : ∀ q ∈ qs, q = .junk) : TV P t d qs

def RepL (w : World) (cs : List Value) (qs : List PV) : Prop := qs.length = cs.length ∧ ∀ (i : Nat) (v : Value) (q : PV), cs[i]? = some v → qs[i]? = some q → Rep noG (fun _ => False) w v q
theorem RepL.one {w : World} {v : Value} {q : PV} (h : Rep noG (fun _ => False) w v q) : RepL w [v] [q] := ⟨rfl, fun i a b h1 h2 => by
  cases i with
  | zero => simp at h1 h2; subst h1 h2; exact h
  | succ i => simp at h1⟩
theorem RepL.append {w : World} {a b : List Value} {q r : List PV} (h : RepL w a q) (k : RepL w b r) : RepL w (a ++ b) (q ++ r) := by
  refine ⟨by simp [h.1, k.1], fun i v p h1 h2 => ?_⟩
  by_cases hi : i < a.length
  · rw [List.getElem?_append_left hi] at h1
    rw [List.getElem?_append_left (by rw [h.1]; exact hi)] at h2
    exact h.2 i v p h1 h2
  · rw [List.getElem?_append_right (by omega)] at h1
    rw [List.getElem?_append_right (by rw [h.1]; omega), h.1] at h2
    exact k.2 _ v p h1 h2
theorem repL_flatten {w : World} : ∀ (ns : List Nat) (qss : List (List PV)) (cs : List Value), qss.length = ns.length → (∀ (j n : Nat) (q : List PV), ns[j]? = some n → qss[j]? = some q → RepL w ((cs.drop (ns.take j).sum).take n) q) → cs.length = ns.sum → RepL w cs qss.flatten
  | [], [], cs, _, _, hl => by
    have : cs = [] := List.length_eq_zero_iff.1 (by simpa using hl)
    subst this
    exact ⟨rfl, fun i v q h => by simp at h⟩
  | n :: ns, q :: qss, cs, hl, h, hs => by
    have h0 := h 0 n q rfl rfl
    simp only [List.take_zero, List.sum_nil, List.drop_zero] at h0
    simp only [List.sum_cons] at hs
    have ih := repL_flatten ns qss (cs.drop n) (by simpa using hl) (fun j m r hj hr => by
      have := h (j + 1) m r (by simpa using hj) (by simpa using hr)
      rw [List.take_succ_cons, List.sum_cons] at this
      rwa [List.drop_drop]) (by simp; omega)
    have := h0.append ih
    rwa [List.take_append_drop] at this
  | [], _ :: _, _, hl, _, _ => by simp at hl
  | _ :: _, [], _, hl, _, _ => by simp at hl

theorem cells?_at {w : World} {base : Nat} {a : Addr} {n : Nat} {cs : List Value} (h : w.cells? base a n = some cs) : cs.length = n ∧ (∀ (i : Nat) (v : Value), cs[i]? = some v → cellAt w a.block (a.off + i) = some v) ∧ (0 < n → a.spot = none) := by
  obtain ⟨h1, h2, h3⟩ := World.cells?_some h
  have hs : 0 < n → a.spot = none := by
    intro hn
    have h0 := h3 0 hn
    have hx : w.cell? a = cs[0]? := by simpa [Addr.add] using h0
    unfold World.cell? at hx
    rw [List.getElem?_eq_getElem (show 0 < cs.length by omega)] at hx
    split at hx
    · split at hx
      · cases hx
      · rename_i hsp; cases hh : a.spot with
        | none => rfl
        | some s => rw [hh] at hsp; simp at hsp
    · cases hx
  refine ⟨h2, fun i v hv => ?_, hs⟩
  have hi : i < n := by rw [← h2]; exact (List.getElem?_eq_some_iff.1 hv).1
  have := h3 i hi
  rw [hv] at this
  have hsp := hs (by omega)
  unfold cellAt
  rw [← this]
  unfold Addr.add
  split
  · rename_i h0; subst h0; cases a; simp at hsp; subst hsp; rfl
  · cases a; simp at hsp; subst hsp; rfl

section
variable {H : Type} {enc : TypeId × Value → H} {P : Program} {W : World}

theorem cells_one (hl : laidOutB P = true) {t : TypeId} (ht : t < P.types.size) {d : TypeDesc} (hu : P.underlying t = some d) (hk : kindOk (some d) = true) (h1 : ∀ fs, d ≠ .struct fs) (h2 : ∀ n e, d ≠ .array n e) : P.cellsOf t = 1 := by
  have := rowFine_of hl ht
  unfold rowFine at this
  rw [hu] at this
  have hv : isVar P t = true := by simp [isVar, ht, hu, hk]
  rw [hv] at this
  cases d <;> simp_all

theorem trod_tv (hl : laidOutB P = true) : ∀ (fuel : Nat) (t : TypeId) (cs : List Value) (d : DataW H) (ps : List MemPlace), t < P.types.size → DataW.trod enc P W 0 (fun _ => true) true fuel t cs = some (d, ps) → ∃ qs, RepL W cs qs ∧ TV P t d qs
  | 0, t, cs, d, ps, ht, h => by simp [DataW.trod] at h
  | fuel + 1, t, cs, d, ps, ht, h => by
    have key : ∀ u, P.underlying t = u → ∃ qs, RepL W cs qs ∧ TV P t d qs := by
      intro u hu
      have junk : (∀ k, u ≠ some (.int k)) → u ≠ some .bool → u ≠ some .string → (∀ e, 0 < P.cellsOf e → u ≠ some (.pointer e)) → (∀ e, 0 < P.cellsOf e → u ≠ some (.slice e)) → (∀ fs, u ≠ some (.struct fs)) → (∀ n e, u ≠ some (.array n e)) → ∃ qs, RepL W cs qs ∧ TV P t d qs := by
        intro k1 k2 k3 k4 k5 k6 k7
        subst hu
        exact ⟨cs.map fun _ => .junk, ⟨by simp, fun i v q h1 h2 => by
          rw [List.getElem?_map, h1] at h2
          injection h2 with h2; subst h2; exact .junk v⟩, .other k2 k1 k3 k4 k5 k6 k7 (fun q hq => by simp at hq; exact hq.2.symm)⟩
      match u, hu with
      | some .bool, hu =>
        obtain ⟨b, rfl, hx⟩ := DataW.trod_bool hu h
        injection hx with h1 h2
        subst h1
        exact ⟨_, .one (.bool b), .bool hu⟩
      | some (.int k), hu =>
        obtain ⟨n, rfl, hx, hw⟩ := DataW.trod_int hu h
        injection hx with h1 h2
        subst h1
        exact ⟨_, .one (.int k n), .int hu hw⟩
      | some .string, hu =>
        obtain ⟨s, rfl, hx, hw⟩ := DataW.trod_string hu h
        injection hx with h1 h2
        subst h1
        have : s = ⟨s.data.toList.toArray⟩ := by
          cases s with
          | mk data => exact congrArg ByteArray.mk data.toArray_toList.symm
        refine ⟨[.str s.data.toList], .one ?_, .str hu (by rw [Array.length_toList]; exact hw)⟩
        have h3 := Rep.str (G := noG) (own := fun _ => False) (w := W) s.data.toList
        rwa [← this] at h3
      | some (.pointer e), hu =>
        by_cases hp : 0 < P.cellsOf e
        · rcases DataW.trod_pointer hu h with ⟨rfl, hx⟩ | ⟨a, cs', y, n, hf, rfl, hx, hc, hy⟩
          · injection hx with h1 h2
            subst h1
            exact ⟨_, .one .nilPtr, .nilPtr hu⟩
          · injection hx with h1 h2
            subst h1
            have hf' : n = fuel := by omega
            subst hf'
            obtain ⟨qs, hq1, hq2⟩ := trod_tv hl n e cs' y.1 y.2 (kid_pointer hl ht hu) hy
            obtain ⟨k1, k2, k3⟩ := cells?_at hc
            have hsp := k3 hp
            refine ⟨[.iptr qs 0], .one ?_, .ptr hu hp hq2⟩
            have ha : a = ⟨a.block, a.off + 0, none⟩ := by cases a; simp at hsp; subst hsp; rfl
            rw [ha]
            have hv : ∀ {i : Nat} {c : PV}, qs[i]? = some c → cs'[i]? = some (cs'.getD i undef) := fun {i c} hc => by
              have : i < cs'.length := by rw [← hq1.1]; exact (List.getElem?_eq_some_iff.1 hc).1
              simp [List.getD_eq_getElem?_getD, List.getElem?_eq_getElem this]
            exact .iptr qs 0 a.block a.off (fun i => cs'.getD i undef) (fun i c hc => ⟨k2 i _ (hv hc), fun h => h⟩) (fun i c hc => hq1.2 i _ c (hv hc) hc)
        · exact junk (by simp) (by simp) (by simp) (fun e' he' hh => by injection hh with hh; injection hh with hh; subst hh; exact hp he') (by simp) (by simp) (by simp)
      | some (.slice e), hu =>
        by_cases hp : 0 < P.cellsOf e
        · rcases DataW.trod_slice hu h with ⟨rfl, hx⟩ | ⟨a, len, cap, elems, rest, n, hf, rfl, hx, _, hlc, hcm, hel, helems, hrest, _⟩
          · injection hx with h1 h2
            subst h1
            exact ⟨_, .one .nilSl, .nilSl hu⟩
          · injection hx with h1 h2
            subst h1
            have hf' : n = fuel := by omega
            subst hf'
            have hke := kid_slice hl ht hu
            have each : ∀ i, i < len → ∃ vs q y, elems[i]? = some y ∧ W.cells? 0 (a.add (i * P.cellsOf e)) (P.cellsOf e) = some vs ∧ RepL W vs q ∧ TV P e y.1 q := by
              intro i hi
              have := helems i hi
              rw [List.getElem?_eq_getElem (by omega : i < elems.length)] at this
              obtain ⟨vs, e1, e2⟩ := Option.bind_eq_some_iff.1 this
              obtain ⟨q, e3, e4⟩ := trod_tv hl n e vs _ _ hke e2
              exact ⟨vs, q, _, List.getElem?_eq_getElem (by omega), e1, e3, e4⟩
            have hch : ∃ (V : Nat → List Value) (X : Nat → List PV), ∀ i, i < len → ∃ y : DataW H × List MemPlace, elems[i]? = some y ∧ W.cells? 0 (a.add (i * P.cellsOf e)) (P.cellsOf e) = some (V i) ∧ RepL W (V i) (X i) ∧ TV P e y.1 (X i) := by
              have : ∀ i : Nat, ∃ z : List Value × List PV, i < len → ∃ y : DataW H × List MemPlace, elems[i]? = some y ∧ W.cells? 0 (a.add (i * P.cellsOf e)) (P.cellsOf e) = some z.1 ∧ RepL W z.1 z.2 ∧ TV P e y.1 z.2 := by
                intro i
                by_cases hi : i < len
                · obtain ⟨vs, q, y, e1, e2, e3, e4⟩ := each i hi
                  exact ⟨(vs, q), fun _ => ⟨y, e1, e2, e3, e4⟩⟩
                · exact ⟨([], []), fun h => (hi h).elim⟩
              obtain ⟨f, hf⟩ := Classical.axiomOfChoice this
              exact ⟨fun i => (f i).1, fun i => (f i).2, hf⟩
            obtain ⟨V, X, hVX⟩ := hch
            have hsp : 0 < cap → a.spot = none := by
              intro hc
              by_cases h0 : 0 < len
              · obtain ⟨y, _, e2, _⟩ := hVX 0 h0
                have := (cells?_at e2).2.2 hp
                simpa [Addr.add] using this
              · obtain ⟨r1, r2⟩ := hrest rfl
                have := r2 0 (by omega)
                rw [List.getElem?_eq_getElem (by omega : 0 < rest.length)] at this
                obtain ⟨vs, e1, e2⟩ := Option.bind_eq_some_iff.1 this
                have h00 : (len + 0) * P.cellsOf e = 0 := by rw [show len + 0 = 0 by omega, Nat.zero_mul]
                rw [h00] at e1
                have := (cells?_at e1).2.2 hp
                simpa [Addr.add] using this
            have hxl : ((List.range len).map X).length = len := by simp
            have hxg : ∀ {j : Nat} {q : List PV}, ((List.range len).map X)[j]? = some q → j < len ∧ q = X j := by
              intro j q hj
              have hjl : j < len := by have := (List.getElem?_eq_some_iff.1 hj).1; simpa using this
              rw [List.getElem?_map, List.getElem?_range hjl] at hj
              injection hj with hj
              exact ⟨hjl, hj.symm⟩
            refine ⟨[.sl ((List.range len).map X) (decide (cap = len))], .one ?_, .sl hu hp (by simp [hel]) (by rw [hxl]; omega) (fun j q hj => ?_) (fun j d q hd hq => ?_)⟩
            · have h3 := Rep.sl (G := noG) (own := fun _ => False) (w := W) ((List.range len).map X) (decide (cap = len)) a.block a.off cap (P.cellsOf e) a (fun j i => (V j).getD i undef) (by rw [hxl]; exact hlc) (fun h => by rw [hxl]; simpa using h)
                (fun hc => by have := hsp hc; cases a; simp at this; subst this; rfl)
                (fun j q hj => by
                  obtain ⟨hjl, rfl⟩ := hxg hj
                  obtain ⟨y, _, e2, e3, _⟩ := hVX j hjl
                  rw [e3.1]; exact (cells?_at e2).1)
                (fun j q i c hj hi => by
                  obtain ⟨hjl, rfl⟩ := hxg hj
                  obtain ⟨y, _, e2, e3, _⟩ := hVX j hjl
                  have hil : i < (V j).length := by rw [← e3.1]; exact (List.getElem?_eq_some_iff.1 hi).1
                  have hv : (V j)[i]? = some ((V j).getD i undef) := by simp [List.getD_eq_getElem?_getD, List.getElem?_eq_getElem hil]
                  have := (cells?_at e2).2.1 i _ hv
                  refine ⟨?_, fun h => h⟩
                  have hadd : (a.add (j * P.cellsOf e)).block = a.block ∧ (a.add (j * P.cellsOf e)).off = a.off + j * P.cellsOf e := by
                    unfold Addr.add
                    split
                    · rename_i h0; rw [h0]; exact ⟨rfl, rfl⟩
                    · exact ⟨rfl, rfl⟩
                  rwa [hadd.1, hadd.2] at this)
                (fun j q i c hj hi => by
                  obtain ⟨hjl, rfl⟩ := hxg hj
                  obtain ⟨y, _, e2, e3, _⟩ := hVX j hjl
                  have hil : i < (V j).length := by rw [← e3.1]; exact (List.getElem?_eq_some_iff.1 hi).1
                  have hv : (V j)[i]? = some ((V j).getD i undef) := by simp [List.getD_eq_getElem?_getD, List.getElem?_eq_getElem hil]
                  exact e3.2 i _ c hv hi)
              rwa [hxl] at h3
            · obtain ⟨hjl, rfl⟩ := hxg hj
              obtain ⟨y, _, e2, e3, _⟩ := hVX j hjl
              rw [e3.1]; exact (cells?_at e2).1
            · obtain ⟨hjl, rfl⟩ := hxg hq
              obtain ⟨y, e1, e2, e3, e4⟩ := hVX j hjl
              rw [List.getElem?_map, e1] at hd
              injection hd with hd
              subst hd
              exact e4
        · exact junk (by simp) (by simp) (by simp) (by simp) (fun e' he' hh => by injection hh with hh; injection hh with hh; subst hh; exact hp he') (by simp) (by simp)
      | some (.struct fs), hu =>
        obtain ⟨xs, n, hf, hx, hcl, hxl, hfs⟩ := DataW.trod_struct hu h
        injection hx with h1 h2
        subst h1
        have hf' : n = fuel := by omega
        subst hf'
        obtain ⟨kf, kc, ko⟩ := kid_struct hl ht hu
        have hch : ∃ X : Nat → List PV, ∀ (i : Nat) (f : Field), fs[i]? = some f → ∃ y : DataW H × List MemPlace, xs[i]? = some y ∧ RepL W ((cs.drop f.offset).take (P.cellsOf f.type)) (X i) ∧ TV P f.type y.1 (X i) := by
          have : ∀ i : Nat, ∃ z : List PV, ∀ (f : Field), fs[i]? = some f → ∃ y : DataW H × List MemPlace, xs[i]? = some y ∧ RepL W ((cs.drop f.offset).take (P.cellsOf f.type)) z ∧ TV P f.type y.1 z := by
            intro i
            cases hfi : fs[i]? with
            | none => exact ⟨[], fun f h => by cases h⟩
            | some f =>
              have hi : i < fs.size := (Array.getElem?_eq_some_iff.1 hfi).1
              have := hfs i f hfi
              rw [List.getElem?_eq_getElem (by omega : i < xs.length)] at this
              obtain ⟨q, e3, e4⟩ := trod_tv hl n f.type _ _ _ (kf f (by
                rw [← Array.getElem?_toList] at hfi
                exact List.mem_of_getElem? hfi)) this
              exact ⟨q, fun f' hf' => by injection hf' with hf'; subst hf'; exact ⟨_, List.getElem?_eq_getElem (by omega), e3, e4⟩⟩
          obtain ⟨f, hf⟩ := Classical.axiomOfChoice this
          exact ⟨f, hf⟩
        obtain ⟨X, hX⟩ := hch
        have hxg : ∀ {j : Nat} {q : List PV}, ((List.range fs.size).map X)[j]? = some q → j < fs.size ∧ q = X j := by
          intro j q hj
          have hjl : j < fs.size := by have := (List.getElem?_eq_some_iff.1 hj).1; simpa using this
          rw [List.getElem?_map, List.getElem?_range hjl] at hj
          injection hj with hj
          exact ⟨hjl, hj.symm⟩
        refine ⟨((List.range fs.size).map X).flatten, ?_, .struct hu (by simpa using hxl) (by simp) (fun j f d q hf hd hq => ?_)⟩
        · refine repL_flatten (fs.toList.map fun f => P.cellsOf f.type) _ cs (by simp) (fun j m q hj hq => ?_) (by rw [hcl, kc])
          obtain ⟨hjl, rfl⟩ := hxg hq
          rw [List.getElem?_map] at hj
          obtain ⟨f, hfj, rfl⟩ := Option.map_eq_some_iff.1 hj
          have hfj' : fs[j]? = some f := by rw [← Array.getElem?_toList]; exact hfj
          obtain ⟨y, e1, e2, e3⟩ := hX j f hfj'
          rw [← List.map_take, ← ko j f hfj]
          exact e2
        · obtain ⟨hjl, rfl⟩ := hxg hq
          obtain ⟨y, e1, e2, e3⟩ := hX j f hf
          rw [List.getElem?_map, e1] at hd
          injection hd with hd
          subst hd
          exact e3
      | some (.array m e), hu =>
        obtain ⟨xs, n, hf, hx, hcl, hxl, hfs⟩ := DataW.trod_array hu h
        injection hx with h1 h2
        subst h1
        have hf' : n = fuel := by omega
        subst hf'
        obtain ⟨ke, kc⟩ := kid_array hl ht hu
        have hch : ∃ X : Nat → List PV, ∀ (i : Nat), i < m → ∃ y : DataW H × List MemPlace, xs[i]? = some y ∧ RepL W ((cs.drop (i * P.cellsOf e)).take (P.cellsOf e)) (X i) ∧ TV P e y.1 (X i) := by
          have : ∀ i : Nat, ∃ z : List PV, i < m → ∃ y : DataW H × List MemPlace, xs[i]? = some y ∧ RepL W ((cs.drop (i * P.cellsOf e)).take (P.cellsOf e)) z ∧ TV P e y.1 z := by
            intro i
            by_cases hi : i < m
            · have := hfs i hi
              rw [List.getElem?_eq_getElem (by omega : i < xs.length)] at this
              obtain ⟨q, e3, e4⟩ := trod_tv hl n e _ _ _ ke this
              exact ⟨q, fun _ => ⟨_, List.getElem?_eq_getElem (by omega), e3, e4⟩⟩
            · exact ⟨[], fun h => (hi h).elim⟩
          obtain ⟨f, hf⟩ := Classical.axiomOfChoice this
          exact ⟨f, hf⟩
        obtain ⟨X, hX⟩ := hch
        have hxg : ∀ {j : Nat} {q : List PV}, ((List.range m).map X)[j]? = some q → j < m ∧ q = X j := by
          intro j q hj
          have hjl : j < m := by have := (List.getElem?_eq_some_iff.1 hj).1; simpa using this
          rw [List.getElem?_map, List.getElem?_range hjl] at hj
          injection hj with hj
          exact ⟨hjl, hj.symm⟩
        refine ⟨((List.range m).map X).flatten, ?_, .array hu (by simpa using hxl) (by simp) (fun j d q hd hq => ?_)⟩
        · refine repL_flatten (List.replicate m (P.cellsOf e)) _ cs (by simp) (fun j k q hj hq => ?_) (by rw [hcl, kc]; simp)
          obtain ⟨hjl, rfl⟩ := hxg hq
          rw [List.getElem?_replicate, if_pos hjl] at hj
          injection hj with hj
          subst hj
          obtain ⟨y, e1, e2, e3⟩ := hX j hjl
          rw [List.take_replicate, Nat.min_eq_left (by omega)]
          simpa using e2
        · obtain ⟨hjl, rfl⟩ := hxg hq
          obtain ⟨y, e1, e2, e3⟩ := hX j hjl
          rw [List.getElem?_map, e1] at hd
          injection hd with hd
          subst hd
          exact e3
      | none, hu => exact junk (by simp) (by simp) (by simp) (by simp) (by simp) (by simp) (by simp)
      | some .invalid, hu => exact junk (by simp) (by simp) (by simp) (by simp) (by simp) (by simp) (by simp)
      | some (.float k), hu => exact junk (by simp) (by simp) (by simp) (by simp) (by simp) (by simp) (by simp)
      | some (.complex k), hu => exact junk (by simp) (by simp) (by simp) (by simp) (by simp) (by simp) (by simp)
      | some .unsafePointer, hu => exact junk (by simp) (by simp) (by simp) (by simp) (by simp) (by simp) (by simp)
      | some (.map k e), hu => exact junk (by simp) (by simp) (by simp) (by simp) (by simp) (by simp) (by simp)
      | some (.chan a b), hu => exact junk (by simp) (by simp) (by simp) (by simp) (by simp) (by simp) (by simp)
      | some (.func a b c), hu => exact junk (by simp) (by simp) (by simp) (by simp) (by simp) (by simp) (by simp)
      | some (.interface a), hu => exact junk (by simp) (by simp) (by simp) (by simp) (by simp) (by simp) (by simp)
      | some (.tuple a), hu => exact junk (by simp) (by simp) (by simp) (by simp) (by simp) (by simp) (by simp)
      | some (.named a b), hu => exact junk (by simp) (by simp) (by simp) (by simp) (by simp) (by simp) (by simp)
    exact key _ rfl
end
end Go.AM
