/- Readings of steps, and how many there are. -/
import Derived.Test.YtinojffgmgjblaaGreatDoorRows
import Derived.Test.YtinojffgmgjblaaGreatDoorRowStp
import Derived.Test.YtinojffgmgjblaaGreatDoorStpD
import Derived.Test.YtinojffgmgjblaaGreatDoorAmZ
set_option linter.unusedVariables false
set_option linter.unusedSimpArgs false
namespace Go.Proofs.YtinojffgmgjblaaGreatDoor
open Go Go.AM Go.RowKit
theorem bulk_map {H : Type} : ∀ l : List (DataW H), (l.map Rows.uptoBulk).sum = Rows.uptoBulkAll l
  | [] => rfl
  | x :: r => by simp only [List.map_cons, List.sum_cons, Rows.uptoBulkAll, bulk_map r]
theorem bulk_mem {H : Type} {d : DataW H} : ∀ {l : List (DataW H)}, d ∈ l → Rows.uptoBulk d ≤ Rows.uptoBulkAll l
  | [], h => by cases h
  | x :: r, h => by
    simp only [Rows.uptoBulkAll]
    rcases List.mem_cons.1 h with e | e
    · subst e; omega
    · have := bulk_mem e; omega
theorem bulk_len {H : Type} : ∀ (l : List (DataW H)), l.length ≤ Rows.uptoBulkAll l
  | [] => by simp [Rows.uptoBulkAll]
  | x :: r => by
    have := bulk_len r
    have h1 : 1 ≤ Rows.uptoBulk x := by
      cases x with
      | lit l => cases l <;> simp [Rows.uptoBulk]
      | _ => simp [Rows.uptoBulk]
    simp only [Rows.uptoBulkAll, List.length_cons]; omega
theorem cntL_map : ∀ l : List Stp, cntL l = (l.map fun s => 1 + cntS s).sum
  | [] => by rw [cntL]; rfl
  | s :: r => by rw [cntL, cntL_map r]; simp
theorem cntLL_map : ∀ l : List (List Stp), cntLL l = (l.map cntL).sum
  | [] => by rw [cntLL]; rfl
  | s :: r => by rw [cntLL, cntLL_map r]; simp
section
variable {H : Type} {B : TypeId → DataW H → Prop} (hB : BdOK Tryz.prog B)
include hB
theorem rd_stpW : ∀ (n : Nat) (d : DataW H) (cs : List PV), SizeOf.sizeOf d ≤ n → TV Tryz.prog 30 d cs → B 30 d → ∃ s, SC n s cs ∧ 1 + cntS s ≤ Rows.uptoBulk d := by
  intro n
  induction n with
  | zero =>
    intro d cs hn
    cases d <;> simp at hn
  | succ n ih =>
    intro d cs hn h hb
    obtain ⟨ds, qss, rfl, rfl, hl1, hl2, hf⟩ := tv_struct Tryz.underlying30 h
    have hbf := hB.st Tryz.underlying30 hb
    have hsz := fun d h => field_size (H := H) (ds := ds) (d := d) h
    match ds, qss, hl1, hl2, hf, hbf, hsz, hn with
    | [d0, d1, d2, d3, d4, d5], [q0, q1, q2, q3, q4, q5], hl1, hl2, hf, hbf, hsz, hn =>
      have hgoal : ∀ c, c ≤ Rows.uptoBulk d5 → 1 + c ≤ Rows.uptoBulk (DataW.agg [d0, d1, d2, d3, d4, d5]) := fun c hc => by
        have hb5 : Rows.uptoBulk d5 ≤ Rows.uptoBulkAll [d0, d1, d2, d3, d4, d5] := bulk_mem (by simp)
        have e : Rows.uptoBulk (DataW.agg [d0, d1, d2, d3, d4, d5]) = Rows.uptoBulkAll [d0, d1, d2, d3, d4, d5] + 1 := by rw [Rows.uptoBulk]
        omega
      obtain ⟨k, _, rfl, hk⟩ := tv_int Tryz.underlying3 (hf 0 _ d0 q0 rfl rfl rfl)
      obtain ⟨p1, l1, rfl, h1⟩ := lr_of (R := NmC) hB Tryz.underlying24 (of_decide_eq_true (by kernel_rfl)) (of_decide_eq_true (by kernel_rfl)) (hf 1 _ d1 q1 rfl rfl rfl) (hbf 1 _ _ rfl rfl) (fun x cs _ hv hbx => rd_name hB x cs hv hbx)
      obtain ⟨p2, l2, rfl, h2⟩ := lr_of (R := NuC) hB Tryz.underlying25 (of_decide_eq_true (by kernel_rfl)) (of_decide_eq_true (by kernel_rfl)) (hf 2 _ d2 q2 rfl rfl rfl) (hbf 2 _ _ rfl rfl) (fun x cs _ hv hbx => rd_num x cs hv)
      obtain ⟨p3, l3, rfl, h3⟩ := lr_of (R := PrC) hB Tryz.underlying26 (of_decide_eq_true (by kernel_rfl)) (of_decide_eq_true (by kernel_rfl)) (hf 3 _ d3 q3 rfl rfl rfl) (hbf 3 _ _ rfl rfl) (fun x cs _ hv hbx => rd_prd hB x cs hv hbx)
      obtain ⟨p4, l4, rfl, h4⟩ := rd_vals hB (hf 4 _ d4 q4 rfl rfl rfl) (hbf 4 _ _ rfl rfl)
      have s5 := hsz d5 (by simp)
      obtain ⟨p5, l5, rfl, h5, w5⟩ := lr_ofW (R := SubC (SC n)) cntL Rows.uptoBulk hB Tryz.underlying28 (of_decide_eq_true (by kernel_rfl)) (of_decide_eq_true (by kernel_rfl)) (hf 5 _ d5 q5 rfl rfl rfl) (hbf 5 _ _ rfl rfl) (fun x cs hx hv hbx => by
        obtain ⟨q, l, rfl, hq, wq⟩ := lr_ofW (R := SC n) (fun s => 1 + cntS s) Rows.uptoBulk hB Tryz.underlying22 (of_decide_eq_true (by kernel_rfl)) (of_decide_eq_true (by kernel_rfl)) hv hbx (fun y cs hy hv hby => ih y cs (by omega) hv hby)
        refine ⟨l, ⟨q, rfl, hq⟩, ?_⟩
        rcases wq with ⟨rfl, rfl⟩ | ⟨dl, rest, rfl, _, hw⟩
        · rw [cntL]; omega
        · rw [← cntL_map, bulk_map] at hw
          simp only [Rows.uptoBulk]
          omega)
      refine ⟨.mk k l1 l2 l3 l4 l5, ⟨i64_rng hk, p1, p2, p3, p4, p5, rfl, h1, h2, h3, h4, h5⟩, ?_⟩
      have hlast : cntLL l5 ≤ Rows.uptoBulk d5 := by
        rcases w5 with ⟨rfl, rfl⟩ | ⟨dl, rest, rfl, _, hw⟩
        · rw [cntLL]; omega
        · rw [← cntLL_map, bulk_map] at hw
          simp only [Rows.uptoBulk]
          omega
      have hfin := hgoal _ hlast
      rw [cntS]
      exact hfin
theorem rd_stpsW {d : DataW H} {qs : List PV} (h : TV Tryz.prog 22 d qs) (hb : B 22 d) : ∃ q l, qs = [q] ∧ SL (SizeOf.sizeOf d) q l ∧ cntL l ≤ Rows.uptoBulk d ∧ l.length ≤ Rows.uptoBulk d := by
  obtain ⟨q, l, e, hq, wq⟩ := lr_ofW (R := SC (SizeOf.sizeOf d)) (fun s => 1 + cntS s) Rows.uptoBulk hB Tryz.underlying22 (of_decide_eq_true (by kernel_rfl)) (of_decide_eq_true (by kernel_rfl)) h hb (fun x cs hx hv hbx => rd_stpW hB _ x cs (by omega) hv hbx)
  refine ⟨q, l, e, hq, ?_⟩
  rcases wq with ⟨rfl, rfl⟩ | ⟨dl, rest, rfl, hlen, hw⟩
  · rw [cntL]; simp
  · rw [← cntL_map, bulk_map] at hw
    have := bulk_len dl
    simp only [Rows.uptoBulk]
    omega
end
end Go.Proofs.YtinojffgmgjblaaGreatDoor
