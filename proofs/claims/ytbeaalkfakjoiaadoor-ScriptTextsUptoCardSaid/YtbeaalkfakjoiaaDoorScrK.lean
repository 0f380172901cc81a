/- result.Lines: its iterator's contract. -/
import Derived.Test.YtbeaalkfakjoiaaDoorPrimNToScrX
import Derived.Test.YtbeaalkfakjoiaaDoorScrEToScrJ
import Derived.Test.YtbeaalkfakjoiaaDoorRfb
import Derived.RangeFuncNested
import Derived.RangeFuncBound
import Derived.RangeFuncCalls
import Derived.RangeFuncLeaves
import Derived.Shelf.Abstract
import Derived.Shelf.RegionOpen
import Derived.WalkKit
import Derived.OwnWalkIn
import Derived.TacticsInMore
import Derived.LoopNIn
import Derived.LoopIn
set_option linter.unusedVariables false
set_option linter.unusedSimpArgs false
namespace Go.Proofs.YtbeaalkfakjoiaaDoor
open Go Go.AM Go.RowKit Go.Shelf
attribute [local go_sem] Oper.semAt_some
theorem grown_of {w w' : World} (h : Below w.heap.size w w') : w.grownBy w' none := ⟨h.os, h.tape, h.output, h.size, fun k hk _ => h.block k hk⟩
theorem call_plain {f : Nat} {args : List PV} {r : PV} (h : T.R (.call f args r)) {w : World} (hg : Gl.ok w) {vals : Array Value} (hs : vals.size = args.length) (hr : ∀ (i : Nat) (c : PV), args[i]? = some c → Rep noG (fun _ => False) w (vals.getD i undef) c) :
    Calls Tryd.prog f vals w fun e w' => ∃ u, e = .returned u ∧ Below w.heap.size w w' ∧ Rep noG (fun _ => False) w' u r := (sem_of h).2 _ w vals (fun _ h => h.elim) hg hs hr
def cutQ (s : List UInt8) : List UInt8 × List UInt8 := match cutB 10 s with
  | none => (s, [])
  | some p => p
theorem cutT_Q (s : List UInt8) : ∃ b, cutT 10 s = .tuple [.str (cutQ s).1, .str (cutQ s).2, .bool b] := by
  unfold cutT cutQ
  cases cutB 10 s with
  | none => exact ⟨_, rfl⟩
  | some p => exact ⟨_, rfl⟩
theorem cutQ_lines {s : List UInt8} (h : s ≠ []) : linesB s = (cutQ s).1 :: linesB (cutQ s).2 ∧ (cutQ s).2.length < s.length ∧ (cutQ s).1.length ≤ s.length := by
  unfold cutQ
  cases hc : cutB 10 s with
  | none => exact ⟨linesB_one (cutB_none hc) h, List.length_pos_iff.2 h, Nat.le_refl _⟩
  | some p =>
    obtain ⟨x, y⟩ := p
    obtain ⟨rfl, hx⟩ := cutB_some hc
    refine ⟨linesB_cut hx, ?_, ?_⟩ <;> simp <;> omega
theorem cut_in {s : List UInt8} (hs : s.length ≤ 140737488355328) {w : World} (hg : Gl.ok w) :
    Calls Tryd.prog 27 #[.string ⟨s.toArray⟩, .string ⟨#[10]⟩] w fun e w' => ∃ b, e = .returned (.tuple #[.string ⟨(cutQ s).1.toArray⟩, .string ⟨(cutQ s).2.toArray⟩, .bool b]) ∧ Below w.heap.size w w' := by
  obtain ⟨b, hb⟩ := cutT_Q s
  have hc := run_Cut s 10 (by omega)
  rw [hb] at hc
  refine (call_plain hc hg (vals := #[.string ⟨s.toArray⟩, .string ⟨#[10]⟩]) rfl ?_).mono ?_
  · intro i c hi
    match i with
    | 0 => injection hi with hi; subst hi; exact .str _
    | 1 => injection hi with hi; subst hi; exact .str [10]
    | i + 2 => cases hi
  · rintro e w' ⟨u, he, hbl, hr⟩
    obtain ⟨vs, rfl, hz, hv⟩ := rep_tuple hr
    have e0 := rep_str (hv 0 _ rfl)
    have e1 := rep_str (hv 1 _ rfl)
    have e2 := rep_bool (hv 2 _ rfl)
    refine ⟨b, ?_, hbl⟩
    rw [he, arr3 hz, e0, e1, e2]
def numL : Nat → List (List UInt8) → List (Int × List UInt8)
  | _, [] => []
  | k, x :: r => ((k : Int), x) :: numL (k + 1) r
def encX (x : Int × List UInt8) : Array Value := #[.int .i64 x.1, .string ⟨x.2.toArray⟩]
end Go.Proofs.YtbeaalkfakjoiaaDoor
