/- strings.Trim by the library's contract; entries without a body. · Readings of values, properties, vertices and edges, and how great they are. -/
import Derived.Test.YtgdjnlopdpjnaaaGreatDoorT
import Derived.Test.YtgdjnlopdpjnaaaGreatDoorShelf
import Derived.Test.YtgdjnlopdpjnaaaGreatDoorAmZ
import Derived.Test.YtgdjnlopdpjnaaaGreatDoorRows
import Derived.Test.YtgdjnlopdpjnaaaGreatDoorKeyQToKeyBb
set_option linter.unusedVariables false
set_option linter.unusedSimpArgs false
namespace Go.Proofs.YtgdjnlopdpjnaaaGreatDoor
open Go Go.AM Go.RowKit
instance : Gl := ⟨fun _ => True, fun _ _ => True.intro⟩
theorem P_sem : ∀ f args r, P0 f args r → Zcx Tryz.prog f args r := by
  rintro f args r ⟨rfl, s, cs, hs, hc, ha, rfl, rfl⟩
  refine ⟨⟨Tryz.f97, (Tryz.f97.body).getD .skip, Tryz.func97, by kernel_rfl, by kernel_rfl⟩, fun F w vals hF hg hsz hrep => ?_⟩
  have e0 : vals.getD 0 undef = .string ⟨s.toArray⟩ := Z2x (hrep 0 _ rfl)
  have e1 : vals.getD 1 undef = .string ⟨cs.toArray⟩ := Z2x (hrep 1 _ rfl)
  have ev : vals = #[.string ⟨s.toArray⟩, .string ⟨cs.toArray⟩] := by rw [arr2 hsz, e0, e1]
  have hz : (⟨s.toArray⟩ : ByteArray).size = s.length := by simp [ByteArray.size]
  have hy : (⟨cs.toArray⟩ : ByteArray).size = cs.length := by simp [ByteArray.size]
  have hd : (⟨s.toArray⟩ : ByteArray).data.toList = s := by simp
  have hd2 : (⟨cs.toArray⟩ : ByteArray).data.toList = cs := by simp
  rw [ev]
  have h := Any.strings_Trim_laid Tryz.lays160 (by kernel_rfl) ⟨s.toArray⟩ ⟨cs.toArray⟩ w (by omega) (by omega) (fun j b hb => ha b (by rw [hd2] at hb; exact List.mem_of_getElem? hb))
  rw [hd, hd2] at h
  exact Calls.mono h fun e w' ⟨he, hb⟩ => ⟨_, he, hb, .str _⟩
theorem X_sem : ∀ f args r, X f args r → Z86 Tryz.prog f args r := by
  rintro f args r (h | h | h)
  · exact h.sem Tryz.func143 (by kernel_rfl) (by kernel_rfl) (by kernel_rfl) (by kernel_rfl)
  · exact h.sem Tryz.func125 (by kernel_rfl) (by kernel_rfl) (by kernel_rfl) (by kernel_rfl)
  · exact h.sem Tryz.func135 (by kernel_rfl) (by kernel_rfl) (by kernel_rfl) (by kernel_rfl)
theorem Zf7 {n : Int} (h : IntKind.i64.min ≤ n ∧ n ≤ IntKind.i64.max) : I64 n := by
  have h1 : IntKind.i64.min = -9223372036854775808 := rfl
  have h2 : IntKind.i64.max = 9223372036854775807 := rfl
  rw [h1, h2] at h
  exact h
instance : Inhabited Val := ⟨.mk 0 0 [] []⟩
instance : Inhabited Prp := ⟨⟨[], .mk 0 0 [] []⟩⟩
theorem bulk_map {H : Type} : ∀ l : List (DataW H), (l.map Rows.uptoBulk).sum = Rows.uptoBulkAll l
  | [] => rfl
  | x :: r => by simp only [List.map_cons, List.sum_cons, Rows.uptoBulkAll, bulk_map r]
theorem Zkd : ∀ l : List Val, Zda l = (l.map Zjg).sum
  | [] => by rw [Zda]; rfl
  | v :: r => by rw [Zda, Zkd r]; simp
def Z7r (x : Prp) : Nat := 1 + x.name.length + Zjg x.val
section
variable {H : Type} {B : TypeId → DataW H → Prop} (hB : BdOK Tryz.prog B)
include hB
theorem rd_valW : ∀ (n : Nat) (d : DataW H) (cs : List PV), SizeOf.sizeOf d ≤ n → TV Tryz.prog 39 d cs → B 39 d → ∃ v, VC v cs ∧ Zjg v ≤ Rows.uptoBulk d := by
  intro n
  induction n with
  | zero =>
    intro d cs hn
    cases d <;> simp at hn
  | succ n ih =>
    intro d cs hn h hb
    obtain ⟨ds, qss, rfl, rfl, hl1, hl2, hf⟩ := Zd6 Tryz.underlying39 h
    have hbf := hB.st Tryz.underlying39 hb
    have hsz := fun d h => field_size (H := H) (ds := ds) (d := d) h
    match ds, qss, hl1, hl2, hf, hbf, hsz, hn with
    | [d0, d1, d2, d3], [q0, q1, q2, q3], hl1, hl2, hf, hbf, hsz, hn =>
      obtain ⟨k, _, rfl, hk⟩ := Zkb Tryz.underlying3 (hf 0 _ d0 q0 rfl rfl rfl)
      obtain ⟨m, _, rfl, hm⟩ := Zkb Tryz.underlying2 (hf 1 _ d1 q1 rfl rfl rfl)
      obtain ⟨s, rfl, rfl, _⟩ := tv_str Tryz.underlying9 (hf 2 _ d2 q2 rfl rfl rfl)
      have hs := hB.str (hbf 2 _ _ rfl rfl)
      have h3 := hsz d3 (by simp)
      obtain ⟨q, l, rfl, hq, wq⟩ := lr_ofW (R := VC) Zjg Rows.uptoBulk hB Tryz.underlying37 (of_decide_eq_true (by kernel_rfl)) (of_decide_eq_true (by kernel_rfl)) (hf 3 _ d3 q3 rfl rfl rfl) (hbf 3 _ _ rfl rfl) (fun x cs hx hv hbx => ih x cs (by omega) hv hbx)
      refine ⟨.mk k m s l, LC.vc hq (Zf7 hk) (Zf7 hm) hs, ?_⟩
      have hl : Zda l ≤ Rows.uptoBulk d3 := by
        rcases wq with ⟨rfl, rfl⟩ | ⟨dl, rest, rfl, _, hw⟩
        · rw [Zda]; omega
        · rw [← Zkd, bulk_map] at hw
          simp only [Rows.uptoBulk]
          omega
      simp only [Zjg, Rows.uptoBulk, Rows.uptoBulkAll]
      omega
theorem rd_prpW (d : DataW H) (cs : List PV) (h : TV Tryz.prog 41 d cs) (hb : B 41 d) : ∃ x, PpC x cs ∧ Z7r x ≤ Rows.uptoBulk d := by
  obtain ⟨ds, qss, rfl, rfl, hl1, hl2, hf⟩ := Zd6 Tryz.underlying41 h
  have hbf := hB.st Tryz.underlying41 hb
  match ds, qss, hl1, hl2, hf, hbf with
  | [d0, d1], [q0, q1], hl1, hl2, hf, hbf =>
    obtain ⟨s, rfl, rfl, _⟩ := tv_str Tryz.underlying9 (hf 0 _ d0 q0 rfl rfl rfl)
    have hs := hB.str (hbf 0 _ _ rfl rfl)
    obtain ⟨v, hv, wv⟩ := rd_valW hB _ d1 q1 (Nat.le_refl _) (hf 1 _ d1 q1 rfl rfl rfl) (hbf 1 _ _ rfl rfl)
    refine ⟨⟨s, v⟩, ⟨hs, q1, by simp, hv⟩, ?_⟩
    simp only [Z7r, Rows.uptoBulk, Rows.uptoBulkAll]
    omega
theorem rd_propsW {d : DataW H} {qs : List PV} (h : TV Tryz.prog 22 d qs) (hb : B 22 d) : ∃ q l, qs = [q] ∧ LR PpC q l ∧ (l.map Z7r).sum ≤ Rows.uptoBulk d := by
  obtain ⟨q, l, e, hq, wq⟩ := lr_ofW (R := PpC) Z7r Rows.uptoBulk hB Tryz.underlying22 (of_decide_eq_true (by kernel_rfl)) (of_decide_eq_true (by kernel_rfl)) h hb (fun x cs hx hv hbx => rd_prpW hB x cs hv hbx)
  refine ⟨q, l, e, hq, ?_⟩
  rcases wq with ⟨rfl, rfl⟩ | ⟨dl, rest, rfl, hlen, hw⟩
  · simp
  · rw [bulk_map] at hw
    simp only [Rows.uptoBulk]
    omega
theorem rd_vtxW (d : DataW H) (cs : List PV) (h : TV Tryz.prog 28 d cs) (hb : B 28 d) : ∃ x, VtC x cs ∧ x.label.length + (x.props.map Z7r).sum ≤ Rows.uptoBulk d := by
  obtain ⟨ds, qss, rfl, rfl, hl1, hl2, hf⟩ := Zd6 Tryz.underlying28 h
  have hbf := hB.st Tryz.underlying28 hb
  match ds, qss, hl1, hl2, hf, hbf with
  | [d0, d1, d2], [q0, q1, q2], hl1, hl2, hf, hbf =>
    obtain ⟨k, _, rfl, hk⟩ := Zkb Tryz.underlying2 (hf 0 _ d0 q0 rfl rfl rfl)
    obtain ⟨s, rfl, rfl, _⟩ := tv_str Tryz.underlying9 (hf 1 _ d1 q1 rfl rfl rfl)
    have hs := hB.str (hbf 1 _ _ rfl rfl)
    obtain ⟨q, l, rfl, hq, wq⟩ := rd_propsW hB (hf 2 _ d2 q2 rfl rfl rfl) (hbf 2 _ _ rfl rfl)
    refine ⟨⟨k, s, l⟩, ⟨Zf7 hk, hs, q, rfl, hq⟩, ?_⟩
    simp only [Rows.uptoBulk, Rows.uptoBulkAll]
    omega
theorem rd_lnkW (d : DataW H) (cs : List PV) (h : TV Tryz.prog 24 d cs) (hb : B 24 d) : ∃ x, LkC x cs ∧ x.label.length + (x.props.map Z7r).sum ≤ Rows.uptoBulk d := by
  obtain ⟨ds, qss, rfl, rfl, hl1, hl2, hf⟩ := Zd6 Tryz.underlying24 h
  have hbf := hB.st Tryz.underlying24 hb
  match ds, qss, hl1, hl2, hf, hbf with
  | [d0, d1, d2, d3, d4], [q0, q1, q2, q3, q4], hl1, hl2, hf, hbf =>
    obtain ⟨k, _, rfl, hk⟩ := Zkb Tryz.underlying2 (hf 0 _ d0 q0 rfl rfl rfl)
    obtain ⟨s, rfl, rfl, _⟩ := tv_str Tryz.underlying9 (hf 1 _ d1 q1 rfl rfl rfl)
    have hs := hB.str (hbf 1 _ _ rfl rfl)
    obtain ⟨o, _, rfl, ho⟩ := Zkb Tryz.underlying2 (hf 2 _ d2 q2 rfl rfl rfl)
    obtain ⟨i, _, rfl, hi⟩ := Zkb Tryz.underlying2 (hf 3 _ d3 q3 rfl rfl rfl)
    obtain ⟨q, l, rfl, hq, wq⟩ := rd_propsW hB (hf 4 _ d4 q4 rfl rfl rfl) (hbf 4 _ _ rfl rfl)
    refine ⟨⟨k, s, o, i, l⟩, ⟨Zf7 hk, hs, Zf7 ho, Zf7 hi, q, rfl, hq⟩, ?_⟩
    simp only [Rows.uptoBulk, Rows.uptoBulkAll]
    omega
end
theorem bd_of {label : List UInt8} {l : List Prp} (h : label.length + (l.map Z7r).sum ≤ 1048576) : BdK label l := by
  have hp : ∀ x : Prp, (Z4x x).length ≤ 20 * Z7r x ∧ (Z8t x.val).length ≤ 11 * Z7r x := fun x => by
    have h1 := Z1o 9 (if 0 < (x.name.length : Int) then (x.name.length : Int).toNat else 0)
    have h2 : (Z8t x.val).length ≤ 11 * Zjg x.val := by
      unfold Z8t
      split
      · exact Zhs _
      · simp
    simp only [Z4x, Z1l, Zt, Z7r, List.length_append] at *
    omega
  have hsum : ∀ l : List Prp, (l.flatMap Z4x).length ≤ 20 * (l.map Z7r).sum ∧ l.length ≤ (l.map Z7r).sum ∧ ∀ x ∈ l, Z7r x ≤ (l.map Z7r).sum := by
    intro l
    induction l with
    | nil => simp
    | cons x r ih =>
      have hx := (hp x).1
      have h1 : 1 ≤ Z7r x := by unfold Z7r; omega
      obtain ⟨i1, i2, i3⟩ := ih
      simp only [List.flatMap_cons, List.map_cons, List.sum_cons, List.length_cons, List.length_append]
      refine ⟨by omega, by omega, fun y hy => ?_⟩
      rcases List.mem_cons.1 hy with rfl | hy
      · omega
      · have := i3 y hy
        omega
  obtain ⟨i1, i2, i3⟩ := hsum l
  have h1 := Z1o 9 (if 0 < (label.length : Int) then (label.length : Int).toNat else 0)
  have h2 := Z1o 9 (if 0 < (l.length : Int) then (l.length : Int).toNat else 0)
  refine ⟨fun y hy => ?_, ?_, by omega, by omega⟩
  · have := (hp y).2
    have := i3 y hy
    omega
  · simp only [Z1l, Z0y, Zt, List.length_append] at *
    omega
theorem bd30_of {label : List UInt8} {l : List Prp} (h : label.length + (l.map Z7r).sum ≤ 1048576) : (Z1l label ++ Z0y l).length ≤ 1000000000 := by
  have hp : ∀ x : Prp, (Z4x x).length ≤ 20 * Z7r x := fun x => by
    have h1 := Z1o 9 (if 0 < (x.name.length : Int) then (x.name.length : Int).toNat else 0)
    have h2 : (Z8t x.val).length ≤ 11 * Zjg x.val := by
      unfold Z8t
      split
      · exact Zhs _
      · simp
    simp only [Z4x, Z1l, Zt, Z7r, List.length_append] at *
    omega
  have hsum : ∀ l : List Prp, (l.flatMap Z4x).length ≤ 20 * (l.map Z7r).sum := by
    intro l
    induction l with
    | nil => simp
    | cons x r ih =>
      have hx := hp x
      simp only [List.flatMap_cons, List.map_cons, List.sum_cons, List.length_append]
      omega
  have i1 := hsum l
  have h1 := Z1o 9 (if 0 < (label.length : Int) then (label.length : Int).toNat else 0)
  have h2 := Z1o 9 (if 0 < (l.length : Int) then (l.length : Int).toNat else 0)
  simp only [Z1l, Z0y, Zt, List.length_append] at *
  omega
end Go.Proofs.YtgdjnlopdpjnaaaGreatDoor
