/- AM30: lists in slices: read, grown, cut. -/
import Derived.Test.YthoknkogdldgcaaAm29
set_option linter.unusedVariables false
set_option linter.unusedSimpArgs false
namespace Go.AM
open Go.RowKit

/-- A slice that is read, which holds a list: its elements by their cells. -/
inductive LV {α : Type} (c : α → List PV) : PV → List α → Prop
  | nil : LV c .nilSl []
  | sl (l : List α) (full : Bool) : LV c (.sl (l.map c) full) l
section
variable {α : Type} {c : α → List PV} {v : PV} {l : List α}
theorem LV.pl (h : LV c v l) (hp : ∀ a ∈ l, ∀ x ∈ c a, Pl x) : Pl v := by
  cases h with
  | nil => exact .nilSl
  | sl l f =>
    refine .sl _ _ fun cs hcs x hx => ?_
    obtain ⟨a, ha, rfl⟩ := List.mem_map.1 hcs
    exact hp a ha x hx
theorem LV.elems (h : LV c v l) (look : Nat → Option Tok) : elemsOf look v = some (l.map c) := by cases h <;> rfl
theorem LV.len (h : LV c v l) : lenOf v = some l.length := by
  cases h with
  | nil => rfl
  | sl l f => simp [lenOf]
theorem LV.notStr (h : LV c v l) : isStr v = false := by cases h <;> rfl
theorem LV.src (h : LV c v l) (st : St) : srcOf st v = some (l.map c) := by cases h <;> rfl
theorem LV.of_byte {s : List UInt8} (h : BV v s) : LV (fun b : UInt8 => [.int .u8 b.toNat]) v s := by
  cases h with
  | nil => exact .nil
  | sl s f => exact .sl _ _
theorem allOf_map {sz : Nat} (hs : ∀ a ∈ l, (c a).length = sz) : allOf sz (l.map c) = true := by
  simp only [allOf, List.all_eq_true, List.mem_map, forall_exists_index, and_imp, forall_apply_eq_imp_iff₂, beq_iff_eq]
  exact hs
theorem okEls_map {sz : Nat} (hs : ∀ a ∈ l, (c a).length = sz ∧ (c a).all PV.one = true) : okEls sz (l.map c) = true := by
  simp only [okEls, List.all_eq_true, List.mem_map, forall_exists_index, and_imp, forall_apply_eq_imp_iff₂, Bool.and_eq_true, beq_iff_eq]
  intro a ha
  have := hs a ha
  exact ⟨this.1, by simpa using this.2⟩
theorem LV.lo (h : LV c v l) (look : Nat → Option Tok) {sz : Nat} (hs : ∀ a ∈ l, (c a).length = sz) {k : IntKind} {m : Int} (h0 : 0 ≤ m) (h1 : m ≤ l.length) : ∃ v', sliceSl? look sz (some (.int k m)) none none v = some v' ∧ LV c v' (l.drop m.toNat) := by
  cases h with
  | nil =>
    have : m = 0 := by simp at h1; omega
    subst this
    exact ⟨.nilSl, by simp [sliceSl?, lenOf, bound?], .nil⟩
  | sl s f => exact ⟨_, slice_lo (allOf_map hs) h0 (by simpa using h1), by rw [← List.map_drop]; exact .sl _ _⟩
theorem LV.hi (h : LV c v l) (look : Nat → Option Tok) {sz : Nat} (hs : ∀ a ∈ l, (c a).length = sz) {k : IntKind} {m : Int} (h0 : 0 ≤ m) (h1 : m ≤ l.length) : ∃ v', sliceSl? look sz none (some (.int k m)) none v = some v' ∧ LV c v' (l.take m.toNat) := by
  cases h with
  | nil =>
    have : m = 0 := by simp at h1; omega
    subst this
    exact ⟨.nilSl, by simp [sliceSl?, lenOf, bound?], .nil⟩
  | sl s f => exact ⟨_, slice_hi (allOf_map hs) h0 (by simpa using h1), by rw [← List.map_take]; exact .sl _ _⟩
end

section
variable {T : Tb} {Q : Post} {k : List Fr} {ρ : EC} {st : St} {l : List POp} {kill : List Nat} {α : Type} {c : α → List PV}
theorem O_lenL {d : Option Nat} {x : Opd} {v : PV} {s : List α} (hx : x.get ρ = some v) (hv : LV c v s) (h : VO T Q l kill k (ρ.sets d (.int .i64 s.length)) st) : VO T Q (⟨d, none, .len false x⟩ :: l) kill k ρ st :=
  O_step (by simp only [stepQ, get1, hx, hv.len, hv.notStr]; rfl) h
theorem O_idxL {d : Option Nat} {x i : Opd} {sz : Nat} {v : PV} {s : List α} {kk : IntKind} {n : Int} (a : α) (hx : x.get ρ = some v) (hv : LV c v s) (hi : i.get ρ = some (.int kk n)) (h0 : 0 ≤ n) (ha : s[n.toNat]? = some a) (hl : (c a).length = sz) (h : VO T Q l kill k (ρ.sets d (.iptr (c a) 0)) st) : VO T Q (⟨d, none, .indexS x i sz⟩ :: l) kill k ρ st := by
  cases hv with
  | nil => simp at ha
  | sl s f => exact O_idx (c a) hx hi h0 (by rw [List.getElem?_map, ha]; rfl) hl h
end

/-! ### Rows of one's own that grow, more than one at once -/
def tokOf : PV → Option Nat
  | .osl t _ _ _ _ => some t
  | _ => none
/-- A row of one's own, from its beginning, or nothing yet. -/
def AccT (sz : Nat) (st : St) (v : PV) (es : List (List PV)) : Prop := (v = .nilSl ∧ es = []) ∨ ∃ t g, v = .osl t g 0 es.length false ∧ st.get t = some (.row g sz es true) ∧ t < st.next
theorem AccT.append {sz bytes : Nat} {st : St} {v : PV} {es src : List (List PV)} (h : AccT sz st v es) (hne : src ≠ []) (hr : (es.length + src.length) * bytes ≤ roomLen) :
    ∃ v' st', appendTo st sz bytes v src = some (v', st') ∧ AccT sz st' v' (es ++ src) ∧ st'.base = st.base ∧ st.next ≤ st'.next ∧ (tokOf v' = tokOf v ∨ tokOf v = none ∧ tokOf v' = some st.next) ∧ ∀ u, tokOf v' ≠ some u → st'.get u = st.get u := by
  rcases h with ⟨rfl, rfl⟩ | ⟨t, g, rfl, hg, hlt⟩
  · refine ⟨_, _, appendTo_nil hne (by simpa using hr), .inr ⟨st.next, 0, by simp, by simp [St.get, St.new, getA_putA], by simp [St.new]⟩, rfl, by simp [St.new], .inr ⟨rfl, rfl⟩, fun u hu => ?_⟩
    simp only [St.get, St.new, getA_putA]
    rw [if_neg (fun e => hu (by rw [← e]; rfl))]
  · refine ⟨_, _, appendTo_own (es := es) hne hg hr, .inr ⟨t, g + 1, by simp, by simp [St.get, St.put, getA_putA], hlt⟩, rfl, Nat.le_refl _, .inl rfl, fun u hu => ?_⟩
    simp only [St.get, St.put, getA_putA]
    rw [if_neg (fun e => hu (by rw [← e]; rfl))]
theorem AccT.keep {sz : Nat} {st st' : St} {v' w : PV} {es : List (List PV)} (h : AccT sz st w es) (hn : st.next ≤ st'.next) (hk : ∀ u, tokOf v' ≠ some u → st'.get u = st.get u) (hd : ∀ u, tokOf w = some u → tokOf v' ≠ some u) : AccT sz st' w es := by
  rcases h with ⟨rfl, rfl⟩ | ⟨t, g, rfl, hg, hlt⟩
  · exact .inl ⟨rfl, rfl⟩
  · exact .inr ⟨t, g, rfl, by rw [hk t (hd t rfl)]; exact hg, by omega⟩
/-- The row that is grown stays apart from another. -/
theorem AccT.apart {sz : Nat} {st : St} {v v' w : PV} {es : List (List PV)} (h : AccT sz st w es) (ht : tokOf v' = tokOf v ∨ tokOf v = none ∧ tokOf v' = some st.next) (hd : ∀ u, tokOf w = some u → tokOf v ≠ some u) : ∀ u, tokOf w = some u → tokOf v' ≠ some u := by
  intro u hu hv
  rcases ht with h1 | ⟨_, h1⟩
  · exact hd u hu (by rw [← h1]; exact hv)
  · rw [h1] at hv
    injection hv with hv
    subst hv
    rcases h with ⟨rfl, _⟩ | ⟨t, g, rfl, hg, hlt⟩
    · cases hu
    · injection hu with hu; omega

/-- A part of a row of one's own, or nothing: what it holds. -/
def Win (sz : Nat) (st : St) (v : PV) (es : List (List PV)) : Prop := (v = .nilSl ∧ es = []) ∨ ∃ t g off f rs lv, v = .osl t g off es.length f ∧ st.get t = some (.row g sz rs lv) ∧ off + es.length ≤ rs.length ∧ (rs.drop off).take es.length = es
theorem AccT.win {sz : Nat} {st : St} {v : PV} {es : List (List PV)} (h : AccT sz st v es) : Win sz st v es := by
  rcases h with ⟨rfl, rfl⟩ | ⟨t, g, rfl, hg, hlt⟩
  · exact .inl ⟨rfl, rfl⟩
  · exact .inr ⟨t, g, 0, false, es, true, rfl, hg, by omega, by simp⟩
theorem Win.len {sz : Nat} {st : St} {v : PV} {es : List (List PV)} (h : Win sz st v es) : lenOf v = some es.length ∧ isStr v = false := by
  rcases h with ⟨rfl, rfl⟩ | ⟨t, g, off, f, rs, lv, rfl, hg, hb, he⟩
  · exact ⟨rfl, rfl⟩
  · exact ⟨rfl, rfl⟩
theorem Win.tail {sz : Nat} {st : St} {v : PV} {e : List PV} {es : List (List PV)} {k : IntKind} (h : Win sz st v (e :: es)) : ∃ v', sliceSl? st.get sz (some (.int k 1)) none none v = some v' ∧ Win sz st v' es := by
  rcases h with ⟨rfl, h⟩ | ⟨t, g, off, f, rs, lv, rfl, hg, hb, he⟩
  · cases h
  · refine ⟨_, slice_osl_lo hg (by omega) (by simp; omega), .inr ⟨t, g, off + 1, f, rs, lv, by simp, hg, by simp at hb; omega, ?_⟩⟩
    rw [← List.drop_drop]
    have : (rs.drop off).take (es.length + 1) = e :: es := by simpa using he
    cases hd : rs.drop off with
    | nil => rw [hd] at this; simp at this
    | cons a r => rw [hd] at this; simp at this; simp; exact this.2
section
variable {T : Tb} {Q : Post} {k : List Fr} {ρ : EC} {st : St} {l : List POp} {kill : List Nat}
theorem O_lenW {d : Option Nat} {x : Opd} {v : PV} {sz : Nat} {es : List (List PV)} (hx : x.get ρ = some v) (hv : Win sz st v es) (h : VO T Q l kill k (ρ.sets d (.int .i64 es.length)) st) : VO T Q (⟨d, none, .len false x⟩ :: l) kill k ρ st :=
  O_step (by simp only [stepQ, get1, hx, hv.len.1, hv.len.2]; rfl) h
/-- The first element, read. -/
theorem O_headW {d d' : Option Nat} {x i : Opd} {t : Nat} {v : PV} {sz : Nat} {e : List PV} {es : List (List PV)} {kk : IntKind} (hx : x.get ρ = some v) (hi : i.get ρ = some (.int kk 0)) (hv : Win sz st v (e :: es)) {n : Nat} {agg : Bool} {q : PV} (hd : d = some t) (hq : slice? e 0 n agg = some q)
    (h : ∀ p, VO T Q l kill k ((ρ.sets d p).sets d' q) st) : VO T Q (⟨d, none, .indexS x i sz⟩ :: ⟨d', none, .load n agg (.t t)⟩ :: l) kill k ρ st := by
  rcases hv with ⟨rfl, hh⟩ | ⟨tk, g, off, f, rs, lv, rfl, hg, hb, he⟩
  · cases hh
  · subst hd
    refine O_idxOwn hx hi hg (by simp) ?_
    refine O_step ?_ (h _)
    have hr : rs[off + Int.toNat 0]? = some e := by
      have h0 : ((rs.drop off).take (es.length + 1))[0]? = some e := by
        have : (rs.drop off).take (es.length + 1) = e :: es := by simpa using he
        rw [this]; rfl
      simpa using h0
    simp only [stepQ, get1, Opd.get, EC.sets, EC.get]
    have hb : Nat.beq t t = true := Nat.beq_refl t
    rw [hb]
    simp only [loadAt, behind, hg]
    rw [if_pos trivial, hr]
    simpa using hq
theorem D_slice {d : Option Nat} {x : Opd} {lo hi mx : Option Opd} {sz : Nat} {p : PV} {a b c : Option PV} (q : PV) (hx : x.get ρ = some p) (hl : getOpt ρ lo = some a) (hh : getOpt ρ hi = some b) (hm : getOpt ρ mx = some c) (hs : sliceSl? st.get sz a b c p = some q) (h : VD T Q l kill k (ρ.sets d q) st) : VD T Q (⟨d, none, .sliceSl x sz lo hi mx⟩ :: l) kill k ρ st :=
  D_step (by simp only [stepQ, get1, hx, hl, hh, hm]; exact hs) h
end
end Go.AM
