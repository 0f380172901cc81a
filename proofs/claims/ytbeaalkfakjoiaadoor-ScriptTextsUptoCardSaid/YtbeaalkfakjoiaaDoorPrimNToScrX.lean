/- What is known of the world (a table of the library's, two errors of its); the library's texts of numbers by its contracts. · What a call of the table means at the program. -/
import Derived.Test.YtbeaalkfakjoiaaDoorT
import Derived.Test.YtbeaalkfakjoiaaDoorShelf
import Derived.Test.YtbeaalkfakjoiaaDoorAmZ
import Derived.Lib.SmallJoins
import Derived.Lib.AppendIntMem
set_option linter.unusedVariables false
set_option linter.unusedSimpArgs false
namespace Go.Proofs.YtbeaalkfakjoiaaDoor
open Go Go.AM Go.RowKit Go.Joins
instance : Gl where
  ok w := Lib.TabIs Tryd.prog w "internal/strconv.uint64pow10" .u64 Lib.pow10Tab ∧ (∃ tp p, w.var? Tryd.prog "strconv.ErrSyntax" = some #[.iface tp p]) ∧ ∃ tp p, w.var? Tryd.prog "strconv.ErrRange" = some #[.iface tp p]
  stab := fun {w w'} hb ⟨h1, ⟨t2, p2, h2⟩, t3, p3, h3⟩ => ⟨var_stays (g := 3) (by kernel_rfl) h1 hb (Nat.le_refl _), ⟨t2, p2, var_stays (g := 1) (by kernel_rfl) h2 hb (Nat.le_refl _)⟩, t3, p3, var_stays (g := 2) (by kernel_rfl) h3 hb (Nat.le_refl _)⟩
theorem arr3 {vals : Array Value} (h : vals.size = 3) : vals = #[vals.getD 0 undef, vals.getD 1 undef, vals.getD 2 undef] := by
  apply Array.ext
  · simp [h]
  · intro i h1 h2
    have : i = 0 ∨ i = 1 ∨ i = 2 := by omega
    rcases this with rfl | rfl | rfl <;> simp [Array.getD, h]
theorem size_arr (s : List UInt8) : (⟨s.toArray⟩ : ByteArray).size = s.length := by simp [ByteArray.size]
theorem P_sem : ∀ f args r, P0 f args r → SemCall Tryd.prog f args r := by
  rintro f args r (⟨rfl, n, h0, h1, rfl, rfl⟩ | ⟨rfl, s, hs, rfl, rfl⟩)
  · refine ⟨⟨Tryd.f54, (Tryd.f54.body).getD .skip, Tryd.func54, by kernel_rfl, by kernel_rfl⟩, fun F w vals hF hg hsz hrep => ?_⟩
    have e0 : vals.getD 0 undef = .int .i64 n := rep_int (hrep 0 _ rfl)
    have e1 : vals.getD 1 undef = .int .i64 10 := rep_int (hrep 1 _ rfl)
    have ev : vals = #[.int .i64 n, .int .i64 10] := by rw [arr2 hsz, e0, e1]
    rw [ev]
    refine (Tryd.strconv_FormatInt_10 n h0 h1 w hg.1).mono fun e w' ⟨he, k, os, hw⟩ => ⟨_, he, ?_, .str _⟩
    subst hw
    exact Lib.below_grow _ _ (Nat.le_refl _) _ _
  · refine ⟨⟨Tryd.f48, (Tryd.f48.body).getD .skip, Tryd.func48, by kernel_rfl, by kernel_rfl⟩, fun F w vals hF hg hsz hrep => ?_⟩
    have e0 : vals.getD 0 undef = .string ⟨s.toArray⟩ := rep_str (hrep 0 _ rfl)
    have e1 : vals.getD 1 undef = .int .i64 10 := rep_int (hrep 1 _ rfl)
    have e2 : vals.getD 2 undef = .int .i64 64 := rep_int (hrep 2 _ rfl)
    have ev : vals = #[.string ⟨s.toArray⟩, .int .i64 10, .int .i64 64] := by rw [arr3 hsz, e0, e1, e2]
    have hz := size_arr s
    have hd : (⟨s.toArray⟩ : ByteArray).data.toList = s := by simp
    have two : ∀ {w' : World} {a b : Value} {p q : PV}, Rep noG F w' a p → Rep noG F w' b q → Rep noG F w' (.tuple #[a, b]) (.tuple [p, q]) := fun ha hb => by
      refine .tuple _ _ rfl fun i c hc => ?_
      match i with
      | 0 => injection hc with hc; subst hc; exact ha
      | 1 => injection hc with hc; subst hc; exact hb
      | i + 2 => cases hc
    rw [ev]
    rcases hp : Lib.parseIntB 64 s with v | _ | _
    · have hr : piPV s = .tuple [.int .i64 v, .nilIface] := by unfold piPV; rw [hp]
      rw [hr]
      refine (Tryd.strconv_ParseInt_10_at64_ok ⟨s.toArray⟩ (by omega) v (by rw [hd]; exact hp) w).mono fun e w' ⟨he, hw⟩ => ⟨_, he, ?_, two (.int _ _) .nilIface⟩
      rcases hw with rfl | ⟨t, rfl⟩
      · exact .refl _ _
      · exact below_bytesWorld _ _ _ _ (Nat.le_refl _)
    · have hr : piPV s = .tuple [.int .i64 0, .iface 102 .junk] := by unfold piPV; rw [hp]
      obtain ⟨tp, p, hv⟩ := hg.2.1
      rw [hr]
      have c : Calls Tryd.prog 48 #[.string ⟨s.toArray⟩, .int .i64 10, .int .i64 64] w fun e w' => ∃ N, e = .returned (.tuple #[.int .i64 0, .iface 102 (.pointer (some ⟨N, 0, none⟩))]) ∧ w.heap.size ≤ N ∧ w'.heap[N]? = some (.cells #[.string ⟨#[80, 97, 114, 115, 101, 73, 110, 116]⟩, .string ⟨s.toArray⟩, .iface tp p] 119 (0, 0)) ∧ Below w.heap.size w w' :=
        Go.Proofs.Any.strconv_ParseInt_10_at64_syntax_var Tryd.laysC174 ⟨s.toArray⟩ (by omega) (by rw [hd]; exact hp) tp p w hv
      exact c.mono fun e w' ⟨N, he, _, _, hb⟩ => ⟨_, he, hb, two (.int _ _) (.iface _ _ _ (.junk _))⟩
    · have hr : piPV s = .tuple [.int .i64 (Lib.intSat 64 s), .iface 102 .junk] := by unfold piPV; rw [hp]
      obtain ⟨tp, p, hv⟩ := hg.2.2
      rw [hr]
      refine (Tryd.strconv_ParseInt_10_at64_range_var ⟨s.toArray⟩ (by omega) (by rw [hd]; exact hp) tp p w hv).mono fun e w' ⟨N, he, _, _, hb⟩ => ⟨_, he, hb, two ?_ (.iface _ _ _ (.junk _))⟩
      rw [hd]
      exact .int _ _
end Go.Proofs.YtbeaalkfakjoiaaDoor
set_option linter.unusedVariables false
namespace Go.Proofs.YtbeaalkfakjoiaaDoor
open Go Go.AM Go.RowKit
theorem X_semS : ∀ f args r, X f args r → SemExt Tryd.prog f args r := by
  rintro f args r (h | h)
  · exact h.sem Tryd.func82 (by kernel_rfl) (by kernel_rfl) (by kernel_rfl) (by kernel_rfl)
  · exact h.sem Tryd.func81 (by kernel_rfl) (by kernel_rfl) (by kernel_rfl) (by kernel_rfl)
theorem sem_of {f : Nat} {args : List PV} {r : PV} (h : T.R (.call f args r)) : SemCall Tryd.prog f args r := run_sound tbl_ok P_sem X_semS h
end Go.Proofs.YtbeaalkfakjoiaaDoor
