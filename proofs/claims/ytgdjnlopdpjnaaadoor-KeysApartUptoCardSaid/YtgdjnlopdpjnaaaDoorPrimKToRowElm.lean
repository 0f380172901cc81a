/- strings.Trim by the library's contract; entries without a body. · Readings of values, properties, vertices and edges, and how great they are. -/
import Derived.Test.YtgdjnlopdpjnaaaDoorT
import Derived.Test.YtgdjnlopdpjnaaaDoorShelf
import Derived.Test.YtgdjnlopdpjnaaaDoorAmZ
import Derived.Test.YtgdjnlopdpjnaaaDoorRows
import Derived.Test.YtgdjnlopdpjnaaaDoorKeyQToKeyAp
set_option linter.unusedVariables false
set_option linter.unusedSimpArgs false
namespace Go.Proofs.YtgdjnlopdpjnaaaDoor
open Go Go.AM Go.RowKit
instance : Gl := ⟨fun _ => True, fun _ _ => True.intro⟩
theorem P_sem : ∀ f args r, P0 f args r → Za3 Tryd.prog f args r := by
  rintro f args r ⟨rfl, s, cs, hs, hc, ha, rfl, rfl⟩
  refine ⟨⟨Tryd.f57, (Tryd.f57.body).getD .skip, Tryd.func57, by kernel_rfl, by kernel_rfl⟩, fun F w vals hF hg hsz hrep => ?_⟩
  have e0 : vals.getD 0 undef = .string ⟨s.toArray⟩ := Z1t (hrep 0 _ rfl)
  have e1 : vals.getD 1 undef = .string ⟨cs.toArray⟩ := Z1t (hrep 1 _ rfl)
  have ev : vals = #[.string ⟨s.toArray⟩, .string ⟨cs.toArray⟩] := by rw [arr2 hsz, e0, e1]
  have hz : (⟨s.toArray⟩ : ByteArray).size = s.length := by simp [ByteArray.size]
  have hy : (⟨cs.toArray⟩ : ByteArray).size = cs.length := by simp [ByteArray.size]
  have hd : (⟨s.toArray⟩ : ByteArray).data.toList = s := by simp
  have hd2 : (⟨cs.toArray⟩ : ByteArray).data.toList = cs := by simp
  rw [ev]
  have h := Any.strings_Trim_laid Tryd.lays160 (by kernel_rfl) ⟨s.toArray⟩ ⟨cs.toArray⟩ w (by omega) (by omega) (fun j b hb => ha b (by rw [hd2] at hb; exact List.mem_of_getElem? hb))
  rw [hd, hd2] at h
  exact Calls.mono h fun e w' ⟨he, hb⟩ => ⟨_, he, hb, .str _⟩
theorem X_sem : ∀ f args r, X f args r → Z6j Tryd.prog f args r := by
  rintro f args r (h | h | h)
  · exact h.sem Tryd.func91 (by kernel_rfl) (by kernel_rfl) (by kernel_rfl) (by kernel_rfl)
  · exact h.sem Tryd.func80 (by kernel_rfl) (by kernel_rfl) (by kernel_rfl) (by kernel_rfl)
  · exact h.sem Tryd.func86 (by kernel_rfl) (by kernel_rfl) (by kernel_rfl) (by kernel_rfl)
theorem Zc5 {n : Int} (h : IntKind.i64.min ≤ n ∧ n ≤ IntKind.i64.max) : I64 n := by
  have h1 : IntKind.i64.min = -9223372036854775808 := rfl
  have h2 : IntKind.i64.max = 9223372036854775807 := rfl
  rw [h1, h2] at h
  exact h
instance : Inhabited Val := ⟨.mk 0 0 [] []⟩
instance : Inhabited Prp := ⟨⟨[], .mk 0 0 [] []⟩⟩
theorem bulk_map {H : Type} : ∀ l : List (DataW H), (l.map Rows.uptoBulk).sum = Rows.uptoBulkAll l
  | [] => rfl
  | x :: r => by simp only [List.map_cons, List.sum_cons, Rows.uptoBulkAll, bulk_map r]
theorem Zgr : ∀ l : List Val, Zae l = (l.map sizeV).sum
  | [] => by rw [Zae]; rfl
  | v :: r => by rw [Zae, Zgr r]; simp
def Z8e (x : Prp) : Nat := 1 + x.name.length + sizeV x.val
section
variable {H : Type} {B : TypeId → DataW H → Prop} (hB : BdOK Tryd.prog B)
include hB
theorem rd_valW : ∀ (n : Nat) (d : DataW H) (cs : List PV), SizeOf.sizeOf d ≤ n → TV Tryd.prog 42 d cs → B 42 d → ∃ v, VC v cs ∧ sizeV v ≤ Rows.uptoBulk d := by
  intro n
  induction n with
  | zero =>
    intro d cs hn
    cases d <;> simp at hn
  | succ n ih =>
    intro d cs hn h hb
    obtain ⟨ds, qss, rfl, rfl, hl1, hl2, hf⟩ := Zab Tryd.underlying42 h
    have hbf := hB.st Tryd.underlying42 hb
    have hsz := fun d h => field_size (H := H) (ds := ds) (d := d) h
    match ds, qss, hl1, hl2, hf, hbf, hsz, hn with
    | [d0, d1, d2, d3], [q0, q1, q2, q3], hl1, hl2, hf, hbf, hsz, hn =>
      obtain ⟨k, _, rfl, hk⟩ := Zgp Tryd.underlying3 (hf 0 _ d0 q0 rfl rfl rfl)
      obtain ⟨m, _, rfl, hm⟩ := Zgp Tryd.underlying2 (hf 1 _ d1 q1 rfl rfl rfl)
      obtain ⟨s, rfl, rfl, _⟩ := tv_str Tryd.underlying9 (hf 2 _ d2 q2 rfl rfl rfl)
      have hs := hB.str (hbf 2 _ _ rfl rfl)
      have h3 := hsz d3 (by simp)
      obtain ⟨q, l, rfl, hq, wq⟩ := lr_ofW (R := VC) sizeV Rows.uptoBulk hB Tryd.underlying40 (of_decide_eq_true (by kernel_rfl)) (of_decide_eq_true (by kernel_rfl)) (hf 3 _ d3 q3 rfl rfl rfl) (hbf 3 _ _ rfl rfl) (fun x cs hx hv hbx => ih x cs (by omega) hv hbx)
      refine ⟨.mk k m s l, LC.vc hq (Zc5 hk) (Zc5 hm) hs, ?_⟩
      have hl : Zae l ≤ Rows.uptoBulk d3 := by
        rcases wq with ⟨rfl, rfl⟩ | ⟨dl, rest, rfl, _, hw⟩
        · rw [Zae]; omega
        · rw [← Zgr, bulk_map] at hw
          simp only [Rows.uptoBulk]
          omega
      simp only [sizeV, Rows.uptoBulk, Rows.uptoBulkAll]
      omega
theorem rd_prpW (d : DataW H) (cs : List PV) (h : TV Tryd.prog 65 d cs) (hb : B 65 d) : ∃ x, PpC x cs ∧ Z8e x ≤ Rows.uptoBulk d := by
  obtain ⟨ds, qss, rfl, rfl, hl1, hl2, hf⟩ := Zab Tryd.underlying65 h
  have hbf := hB.st Tryd.underlying65 hb
  match ds, qss, hl1, hl2, hf, hbf with
  | [d0, d1], [q0, q1], hl1, hl2, hf, hbf =>
    obtain ⟨s, rfl, rfl, _⟩ := tv_str Tryd.underlying9 (hf 0 _ d0 q0 rfl rfl rfl)
    have hs := hB.str (hbf 0 _ _ rfl rfl)
    obtain ⟨v, hv, wv⟩ := rd_valW hB _ d1 q1 (Nat.le_refl _) (hf 1 _ d1 q1 rfl rfl rfl) (hbf 1 _ _ rfl rfl)
    refine ⟨⟨s, v⟩, ⟨hs, q1, by simp, hv⟩, ?_⟩
    simp only [Z8e, Rows.uptoBulk, Rows.uptoBulkAll]
    omega
theorem rd_propsW {d : DataW H} {qs : List PV} (h : TV Tryd.prog 22 d qs) (hb : B 22 d) : ∃ q l, qs = [q] ∧ LR PpC q l ∧ (l.map Z8e).sum ≤ Rows.uptoBulk d := by
  obtain ⟨q, l, e, hq, wq⟩ := lr_ofW (R := PpC) Z8e Rows.uptoBulk hB Tryd.underlying22 (of_decide_eq_true (by kernel_rfl)) (of_decide_eq_true (by kernel_rfl)) h hb (fun x cs hx hv hbx => rd_prpW hB x cs hv hbx)
  refine ⟨q, l, e, hq, ?_⟩
  rcases wq with ⟨rfl, rfl⟩ | ⟨dl, rest, rfl, hlen, hw⟩
  · simp
  · rw [bulk_map] at hw
    simp only [Rows.uptoBulk]
    omega
theorem rd_vtxW (d : DataW H) (cs : List PV) (h : TV Tryd.prog 24 d cs) (hb : B 24 d) : ∃ x, VtC x cs ∧ x.label.length + (x.props.map Z8e).sum ≤ Rows.uptoBulk d := by
  obtain ⟨ds, qss, rfl, rfl, hl1, hl2, hf⟩ := Zab Tryd.underlying24 h
  have hbf := hB.st Tryd.underlying24 hb
  match ds, qss, hl1, hl2, hf, hbf with
  | [d0, d1, d2], [q0, q1, q2], hl1, hl2, hf, hbf =>
    obtain ⟨k, _, rfl, hk⟩ := Zgp Tryd.underlying2 (hf 0 _ d0 q0 rfl rfl rfl)
    obtain ⟨s, rfl, rfl, _⟩ := tv_str Tryd.underlying9 (hf 1 _ d1 q1 rfl rfl rfl)
    have hs := hB.str (hbf 1 _ _ rfl rfl)
    obtain ⟨q, l, rfl, hq, wq⟩ := rd_propsW hB (hf 2 _ d2 q2 rfl rfl rfl) (hbf 2 _ _ rfl rfl)
    refine ⟨⟨k, s, l⟩, ⟨Zc5 hk, hs, q, rfl, hq⟩, ?_⟩
    simp only [Rows.uptoBulk, Rows.uptoBulkAll]
    omega
theorem rd_lnkW (d : DataW H) (cs : List PV) (h : TV Tryd.prog 26 d cs) (hb : B 26 d) : ∃ x, LkC x cs ∧ x.label.length + (x.props.map Z8e).sum ≤ Rows.uptoBulk d := by
  obtain ⟨ds, qss, rfl, rfl, hl1, hl2, hf⟩ := Zab Tryd.underlying26 h
  have hbf := hB.st Tryd.underlying26 hb
  match ds, qss, hl1, hl2, hf, hbf with
  | [d0, d1, d2, d3, d4], [q0, q1, q2, q3, q4], hl1, hl2, hf, hbf =>
    obtain ⟨k, _, rfl, hk⟩ := Zgp Tryd.underlying2 (hf 0 _ d0 q0 rfl rfl rfl)
    obtain ⟨s, rfl, rfl, _⟩ := tv_str Tryd.underlying9 (hf 1 _ d1 q1 rfl rfl rfl)
    have hs := hB.str (hbf 1 _ _ rfl rfl)
    obtain ⟨o, _, rfl, ho⟩ := Zgp Tryd.underlying2 (hf 2 _ d2 q2 rfl rfl rfl)
    obtain ⟨i, _, rfl, hi⟩ := Zgp Tryd.underlying2 (hf 3 _ d3 q3 rfl rfl rfl)
    obtain ⟨q, l, rfl, hq, wq⟩ := rd_propsW hB (hf 4 _ d4 q4 rfl rfl rfl) (hbf 4 _ _ rfl rfl)
    refine ⟨⟨k, s, o, i, l⟩, ⟨Zc5 hk, hs, Zc5 ho, Zc5 hi, q, rfl, hq⟩, ?_⟩
    simp only [Rows.uptoBulk, Rows.uptoBulkAll]
    omega
end
theorem bd_of {label : List UInt8} {l : List Prp} (h : label.length + (l.map Z8e).sum ≤ 1048576) : BdK label l := by
  have hp : ∀ x : Prp, (propK x).length ≤ 20 * Z8e x ∧ (Zei x.val).length ≤ 11 * Z8e x := fun x => by
    have h1 := Z2h 9 (if 0 < (x.name.length : Int) then (x.name.length : Int).toNat else 0)
    have h2 : (Zei x.val).length ≤ 11 * sizeV x.val := by
      unfold Zei
      split
      · exact putV_size _
      · simp
    simp only [propK, Z49, Z4k, Z8e, List.length_append] at *
    omega
  have hsum : ∀ l : List Prp, (l.flatMap propK).length ≤ 20 * (l.map Z8e).sum ∧ l.length ≤ (l.map Z8e).sum ∧ ∀ x ∈ l, Z8e x ≤ (l.map Z8e).sum := by
    intro l
    induction l with
    | nil => simp
    | cons x r ih =>
      have hx := (hp x).1
      have h1 : 1 ≤ Z8e x := by unfold Z8e; omega
      obtain ⟨i1, i2, i3⟩ := ih
      simp only [List.flatMap_cons, List.map_cons, List.sum_cons, List.length_cons, List.length_append]
      refine ⟨by omega, by omega, fun y hy => ?_⟩
      rcases List.mem_cons.1 hy with rfl | hy
      · omega
      · have := i3 y hy
        omega
  obtain ⟨i1, i2, i3⟩ := hsum l
  have h1 := Z2h 9 (if 0 < (label.length : Int) then (label.length : Int).toNat else 0)
  have h2 := Z2h 9 (if 0 < (l.length : Int) then (l.length : Int).toNat else 0)
  refine ⟨fun y hy => ?_, ?_, by omega, by omega⟩
  · have := (hp y).2
    have := i3 y hy
    omega
  · simp only [Z49, Z2o, Z4k, List.length_append] at *
    omega
end Go.Proofs.YtgdjnlopdpjnaaaDoor
