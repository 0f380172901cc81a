/- AM29: slices that are read; bytes. -/
import Derived.Test.YthoknkogdldgcaaAm28
set_option linter.unusedVariables false
set_option linter.unusedSimpArgs false
namespace Go.AM
open Go.RowKit

theorem slice_lohi {look : Nat → Option Tok} {sz : Nat} {k k' : IntKind} {lo hi : Int} {xs : List (List PV)} {f : Bool} (ha : allOf sz xs = true) (h0 : 0 ≤ lo) (h1 : lo ≤ hi) (h2 : hi ≤ xs.length) :
    sliceSl? look sz (some (.int k lo)) (some (.int k' hi)) none (.sl xs f) = some (.sl ((xs.drop lo.toNat).take (hi.toNat - lo.toNat)) (f && hi.toNat == xs.length)) := by
  simp only [sliceSl?, lenOf, bound?, Option.bind_some]
  rw [if_pos (by omega)]
  simp only [Option.bind_some]
  rw [if_pos (by omega)]
  simp [ha]
theorem slice_hi {look : Nat → Option Tok} {sz : Nat} {k' : IntKind} {hi : Int} {xs : List (List PV)} {f : Bool} (ha : allOf sz xs = true) (h1 : 0 ≤ hi) (h2 : hi ≤ xs.length) :
    sliceSl? look sz none (some (.int k' hi)) none (.sl xs f) = some (.sl (xs.take hi.toNat) (f && hi.toNat == xs.length)) := by
  simp only [sliceSl?, lenOf, bound?, Option.bind_some]
  rw [if_pos (by omega)]
  simp [ha]
theorem slice_lo {look : Nat → Option Tok} {sz : Nat} {k : IntKind} {lo : Int} {xs : List (List PV)} {f : Bool} (ha : allOf sz xs = true) (h0 : 0 ≤ lo) (h2 : lo ≤ xs.length) :
    sliceSl? look sz (some (.int k lo)) none none (.sl xs f) = some (.sl (xs.drop lo.toNat) f) := by
  simp only [sliceSl?, lenOf, bound?, Option.bind_some]
  rw [if_pos (by omega)]
  simp [ha]
  rw [List.take_of_length_le (by simp)]
theorem slice_osl {look : Nat → Option Tok} {sz t g off len : Nat} {k k' : IntKind} {lo hi : Int} {f lv : Bool} {es : List (List PV)} (hg : look t = some (.row g sz es lv)) (h0 : 0 ≤ lo) (h1 : lo ≤ hi) (h2 : hi ≤ len) :
    sliceSl? look sz (some (.int k lo)) (some (.int k' hi)) none (.osl t g off len f) = some (.osl t g (off + lo.toNat) (hi.toNat - lo.toNat) (f && hi.toNat == len)) := by
  simp only [sliceSl?, lenOf, bound?, Option.bind_some]
  rw [if_pos (by omega)]
  simp only [Option.bind_some]
  rw [if_pos (by omega)]
  simp [hg]
theorem slice_osl_lo {look : Nat → Option Tok} {sz t g off len : Nat} {k : IntKind} {lo : Int} {f lv : Bool} {es : List (List PV)} (hg : look t = some (.row g sz es lv)) (h0 : 0 ≤ lo) (h2 : lo ≤ len) :
    sliceSl? look sz (some (.int k lo)) none none (.osl t g off len f) = some (.osl t g (off + lo.toNat) (len - lo.toNat) f) := by
  simp only [sliceSl?, lenOf, bound?, Option.bind_some]
  rw [if_pos (by omega)]
  simp [hg]
theorem slice_osl_hi {look : Nat → Option Tok} {sz t g off len : Nat} {k : IntKind} {hi : Int} {f lv : Bool} {es : List (List PV)} (hg : look t = some (.row g sz es lv)) (h0 : 0 ≤ hi) (h2 : hi ≤ len) :
    sliceSl? look sz none (some (.int k hi)) none (.osl t g off len f) = some (.osl t g off hi.toNat (f && hi.toNat == len)) := by
  simp only [sliceSl?, lenOf, bound?, Option.bind_some]
  rw [if_pos (by omega)]
  simp [hg]

section
variable {T : Tb} {Q : Post} {k : List Fr} {ρ : EC} {st : St} {l : List POp} {kill : List Nat}
theorem O_slice {d : Option Nat} {x : Opd} {lo hi mx : Option Opd} {sz : Nat} {p : PV} {a b c : Option PV} (q : PV) (hx : x.get ρ = some p) (hl : getOpt ρ lo = some a) (hh : getOpt ρ hi = some b) (hm : getOpt ρ mx = some c) (hs : sliceSl? st.get sz a b c p = some q) (h : VO T Q l kill k (ρ.sets d q) st) : VO T Q (⟨d, none, .sliceSl x sz lo hi mx⟩ :: l) kill k ρ st :=
  O_step (by simp only [stepQ, get1, hx, hl, hh, hm]; exact hs) h
/-- An element, by its place. -/
theorem O_idx {d : Option Nat} {x i : Opd} {sz : Nat} {xs : List (List PV)} {f : Bool} {kk : IntKind} {n : Int} (cs : List PV) (hx : x.get ρ = some (.sl xs f)) (hi : i.get ρ = some (.int kk n)) (h0 : 0 ≤ n) (hc : xs[n.toNat]? = some cs) (hl : cs.length = sz) (h : VO T Q l kill k (ρ.sets d (.iptr cs 0)) st) : VO T Q (⟨d, none, .indexS x i sz⟩ :: l) kill k ρ st :=
  O_step (by simp only [stepQ, get2, hx, hi, indexed, indexS?]; rw [if_pos h0, hc]; simp [hl]) h
theorem O_idxOwn {d : Option Nat} {x i : Opd} {sz t g off len : Nat} {f lv : Bool} {es : List (List PV)} {kk : IntKind} {n : Int} (hx : x.get ρ = some (.osl t g off len f)) (hi : i.get ρ = some (.int kk n)) (hg : st.get t = some (.row g sz es lv)) (h0 : 0 ≤ n ∧ n < len) (h : VO T Q l kill k (ρ.sets d (.rptr t g (off + n.toNat) 0)) st) : VO T Q (⟨d, none, .indexS x i sz⟩ :: l) kill k ρ st :=
  O_step (by simp only [stepQ, get2, hx, hi, indexed, indexS?]; rw [if_pos h0, hg]; simp) h
theorem O_chr {d : Option Nat} {x i : Opd} {s : List UInt8} {kk : IntKind} {n : Int} (b : UInt8) (hx : x.get ρ = some (.str s)) (hi : i.get ρ = some (.int kk n)) (h0 : 0 ≤ n) (hc : s[n.toNat]? = some b) (h : VO T Q l kill k (ρ.sets d (.int .u8 b.toNat)) st) : VO T Q (⟨d, none, .indexStr x i⟩ :: l) kill k ρ st :=
  O_step (by simp only [stepQ, get2, hx, hi, indexed, indexStr?]; rw [if_pos h0, hc]; simp) h
end

/-! ### Bytes -/
theorem bytesOf_cells : ∀ s : List UInt8, bytesOf? (byteCells s) = some s
  | [] => rfl
  | b :: s => by
    show (bytesOf? (byteCells s)).map (UInt8.ofNat (Int.toNat (b.toNat : Int)) :: ·) = _
    rw [bytesOf_cells s]
    simp
theorem okEls_bytes (s : List UInt8) : okEls 1 (byteCells s) = true := by
  simp [okEls, byteCells, PV.one]
theorem allOf_bytes (s : List UInt8) : allOf 1 (byteCells s) = true := by
  simp [allOf, byteCells]
theorem byteCells_append (a b : List UInt8) : byteCells (a ++ b) = byteCells a ++ byteCells b := by simp [byteCells]
theorem byteCells_length (a : List UInt8) : (byteCells a).length = a.length := by simp [byteCells]
theorem byteCells_take (a : List UInt8) (n : Nat) : (byteCells a).take n = byteCells (a.take n) := by simp [byteCells]
theorem byteCells_drop (a : List UInt8) (n : Nat) : (byteCells a).drop n = byteCells (a.drop n) := by simp [byteCells]
/-- Bytes that are read. -/
inductive BV : PV → List UInt8 → Prop
  | nil : BV .nilSl []
  | sl (s : List UInt8) (full : Bool) : BV (.sl (byteCells s) full) s
theorem BV.pl {v : PV} {s : List UInt8} (h : BV v s) : Pl v := by
  cases h with
  | nil => exact .nilSl
  | sl s f => exact .sl _ _ (pl_bytes s)
theorem BV.elems {v : PV} {s : List UInt8} (h : BV v s) (look : Nat → Option Tok) : elemsOf look v = some (byteCells s) := by
  cases h <;> rfl
theorem BV.len {v : PV} {s : List UInt8} (h : BV v s) : lenOf v = some s.length := by
  cases h with
  | nil => rfl
  | sl s f => simp [lenOf, byteCells]
theorem BV.notStr {v : PV} {s : List UInt8} (h : BV v s) : isStr v = false := by cases h <;> rfl
section
variable {T : Tb} {Q : Post} {k : List Fr} {ρ : EC} {st : St} {l : List POp} {kill : List Nat}
theorem O_toStr {d : Option Nat} {x : Opd} {v : PV} {s : List UInt8} (hx : x.get ρ = some v) (hv : BV v s) (h : VO T Q l kill k (ρ.sets d (.str s)) st) : VO T Q (⟨d, none, .toStr x⟩ :: l) kill k ρ st :=
  O_step (by simp only [stepQ, get1, hx, hv.elems, Option.bind_some, bytesOf_cells, Option.map_some]) h
theorem O_lenB {d : Option Nat} {x : Opd} {v : PV} {s : List UInt8} (hx : x.get ρ = some v) (hv : BV v s) (h : VO T Q l kill k (ρ.sets d (.int .i64 s.length)) st) : VO T Q (⟨d, none, .len false x⟩ :: l) kill k ρ st :=
  O_step (by simp only [stepQ, get1, hx, hv.len, hv.notStr]; rfl) h
theorem srcOf_bytes {v : PV} {s : List UInt8} (hv : BV v s) : srcOf st v = some (byteCells s) := by cases hv <;> rfl
end
theorem BV.hi {v : PV} {s : List UInt8} (h : BV v s) (look : Nat → Option Tok) {k : IntKind} {m : Int} (h0 : 0 ≤ m) (h1 : m ≤ s.length) : ∃ v', sliceSl? look 1 none (some (.int k m)) none v = some v' ∧ BV v' (s.take m.toNat) := by
  cases h with
  | nil =>
    have : m = 0 := by simp at h1; omega
    subst this
    exact ⟨.nilSl, by simp [sliceSl?, lenOf, bound?], .nil⟩
  | sl s f => exact ⟨_, slice_hi (allOf_bytes s) h0 (by rw [byteCells_length]; exact h1), by rw [byteCells_take]; exact .sl _ _⟩
theorem BV.lo {v : PV} {s : List UInt8} (h : BV v s) (look : Nat → Option Tok) {k : IntKind} {m : Int} (h0 : 0 ≤ m) (h1 : m ≤ s.length) : ∃ v', sliceSl? look 1 (some (.int k m)) none none v = some v' ∧ BV v' (s.drop m.toNat) := by
  cases h with
  | nil =>
    have : m = 0 := by simp at h1; omega
    subst this
    exact ⟨.nilSl, by simp [sliceSl?, lenOf, bound?], .nil⟩
  | sl s f => exact ⟨_, slice_lo (allOf_bytes s) h0 (by rw [byteCells_length]; exact h1), by rw [byteCells_drop]; exact .sl _ _⟩
theorem BV.lohi {v : PV} {s : List UInt8} (h : BV v s) (look : Nat → Option Tok) {k k' : IntKind} {m m' : Int} (h0 : 0 ≤ m) (h01 : m ≤ m') (h1 : m' ≤ s.length) : ∃ v', sliceSl? look 1 (some (.int k m)) (some (.int k' m')) none v = some v' ∧ BV v' ((s.drop m.toNat).take (m'.toNat - m.toNat)) := by
  cases h with
  | nil =>
    have : m = 0 := by simp at h1; omega
    subst this
    have : m' = 0 := by simp at h1; omega
    subst this
    exact ⟨.nilSl, by simp [sliceSl?, lenOf, bound?], .nil⟩
  | sl s f => exact ⟨_, slice_lohi (allOf_bytes s) h0 h01 (by rw [byteCells_length]; exact h1), by rw [byteCells_drop, byteCells_take]; exact .sl _ _⟩
/-- The byte of a number. -/
theorem cell_byte {n : Int} (h : 0 ≤ n ∧ n < 256) : [PV.int .u8 n] = [PV.int .u8 ((UInt8.ofNat n.toNat).toNat : Int)] := by
  congr 2
  simp
  omega
end Go.AM
