/- rambleref03.takeStr. -/
import Derived.Test.YtfdebgebnkbagaaDoorCodJ
set_option linter.unusedVariables false
set_option linter.unusedSimpArgs false
namespace Go.Proofs.YtfdebgebnkbagaaDoor
open Go Go.AM Go.RowKit
theorem strR_ne {b : UInt8} (hb : b ≠ 0) (r acc : List UInt8) (n : Nat) : strR (b :: r) acc n = strR r (acc ++ [b]) (n + 1) := by
  cases r with
  | nil => simp [strR]
  | cons c r => simp only [strR]; rw [if_neg hb]
theorem strR_app : ∀ (x y acc : List UInt8) (n : Nat), x.count 0 = 0 → strR (x ++ y) acc n = strR y (acc ++ x) (n + x.length)
  | [], y, acc, n, _ => by simp
  | b :: x, y, acc, n, h => by
    rw [List.count_cons] at h
    have hb : b ≠ 0 := by rintro rfl; simp at h
    rw [List.cons_append, strR_ne hb, strR_app x y _ _ (by omega)]
    simp only [List.append_assoc, List.cons_append, List.nil_append, List.length_cons]
    congr 1
    omega
theorem RB.elems {st : St} {v : PV} {s : List UInt8} (h : RB st v s) : elemsOf st.get v = some (byteCells s) := by
  have := h.src
  rcases h with ⟨rfl, _⟩ | ⟨f, rfl⟩ | ⟨t, g, lv, rfl, _⟩ <;> exact this
theorem O_toStrA {T : Tb} {Q : Post} {k : List Fr} {ρ : EC} {st : St} {l : List POp} {kill : List Nat} {d : Option Nat} {x : Opd} {v : PV} {s : List UInt8} (hx : x.get ρ = some v) (hv : elemsOf st.get v = some (byteCells s)) (h : VO T Q l kill k (ρ.sets d (.str s)) st) : VO T Q (⟨d, none, .toStr x⟩ :: l) kill k ρ st :=
  O_step (by simp only [stepQ, get1, hx, hv, Option.bind_some, bytesOf_cells, Option.map_some]) h
def AccR (st : St) (v : PV) (b : List UInt8) : Prop := AccT 1 st v (byteCells b) ∧ 0 < st.next ∧ tokOf v ≠ some 0 ∧ ∃ c0 c1 c2 c3, st.get 0 = some (.var [c0, c1, c2, c3])
theorem AccR.grow {st : St} {v : PV} {b : List UInt8} (h : AccR st v b) (c : List UInt8) (hne : c ≠ []) (hr : b.length + c.length ≤ 140737488355328) : ∃ v' st', appendTo st 1 1 v (byteCells c) = some (v', st') ∧ AccR st' v' (b ++ c) := by
  obtain ⟨hA, hn, ht, c0, c1, c2, c3, hg⟩ := h
  obtain ⟨v', st', k1, k2, k3⟩ := hA.grow (bytes := 1) (src := byteCells c) (by simpa [byteCells] using hne) (by simp only [byteCells_length, roomLen]; omega)
  rw [← byteCells_append] at k2
  refine ⟨v', st', k1, k2, by have := k3.2.1; omega, ?_, c0, c1, c2, c3, by rw [k3.2.2.2 0 hn ht]; exact hg⟩
  rcases k3.2.2.1 with h | ⟨m, h, hm⟩
  · rw [h]; exact ht
  · rw [h]; intro e; injection e; omega
end Go.Proofs.YtfdebgebnkbagaaDoor
