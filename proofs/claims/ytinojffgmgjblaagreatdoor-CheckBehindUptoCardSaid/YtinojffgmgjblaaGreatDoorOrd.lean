/- How values stand: plain laws. -/
import Derived.Test.YtinojffgmgjblaaGreatDoorValA
set_option linter.unusedVariables false
set_option linter.unusedSimpArgs false
namespace Go.Proofs.YtinojffgmgjblaaGreatDoor
open Go Go.AM Go.RowKit
def orI (a b : Int) : Int := if a = 0 then b else a
mutual
def cmpV : Val → Val → Int
  | .mk k n s l, .mk k' n' s' l' => orI (cmpI k k') (orI (cmpI n n') (orI (cmpS s s') (cmpVs l l')))
def cmpVs : List Val → List Val → Int
  | [], [] => 0
  | [], _ :: _ => -1
  | _ :: _, [] => 1
  | a :: x, b :: y => orI (cmpV a b) (cmpVs x y)
end
theorem cmpI_zero {a b : Int} : cmpI a b = 0 ↔ a = b := by
  unfold cmpI
  constructor
  · intro h
    split at h
    · cases h
    · split at h
      · cases h
      · omega
  · rintro rfl; simp
theorem orI_zero {a b : Int} : orI a b = 0 ↔ a = 0 ∧ b = 0 := by
  unfold orI
  constructor
  · intro h
    split at h
    · exact ⟨by assumption, h⟩
    · contradiction
  · rintro ⟨rfl, rfl⟩; rfl
theorem cmpS_zero : ∀ {s t : List UInt8}, cmpS s t = 0 ↔ s = t
  | [], [] => by simp [cmpS]
  | [], _ :: _ => by simp [cmpS]
  | _ :: _, [] => by simp [cmpS]
  | a :: s, b :: t => by
    unfold cmpS
    by_cases h : a = b
    · subst h; rw [if_pos rfl]; rw [cmpS_zero]; simp
    · rw [if_neg h, cmpI_zero]
      constructor
      · intro h2
        exact absurd (UInt8.toNat_inj.1 (by omega)) h
      · intro h2; injection h2 with h2; exact absurd h2 h
mutual
theorem cmpV_zero : ∀ {a b : Val}, cmpV a b = 0 ↔ a = b
  | .mk k n s l, .mk k' n' s' l' => by
    unfold cmpV
    rw [orI_zero, orI_zero, orI_zero, cmpI_zero, cmpI_zero, cmpS_zero, cmpVs_zero]
    simp
theorem cmpVs_zero : ∀ {a b : List Val}, cmpVs a b = 0 ↔ a = b
  | [], [] => by simp [cmpVs]
  | [], _ :: _ => by simp [cmpVs]
  | _ :: _, [] => by simp [cmpVs]
  | a :: x, b :: y => by
    unfold cmpVs
    rw [orI_zero, cmpV_zero, cmpVs_zero]
    simp
end
theorem cmpV_self (a : Val) : cmpV a a = 0 := cmpV_zero.2 rfl
theorem cmpVs_pre : ∀ (p x y : List Val), cmpVs (p ++ x) (p ++ y) = cmpVs x y
  | [], x, y => rfl
  | a :: p, x, y => by
    show orI (cmpV a a) (cmpVs (p ++ x) (p ++ y)) = _
    rw [cmpV_self]
    exact cmpVs_pre p x y
def LC (l : List Val) (p : PV) : Prop := (p = .nilSl ∧ l = []) ∨ ∃ xs full, p = .sl xs full ∧ l.length ≤ 140737488355328 ∧ xs.length = l.length ∧ ∀ (j : Nat) (v : Val) (cs : List PV), l[j]? = some v → xs[j]? = some cs → VC v cs
theorem VC.open {k n : Int} {s : List UInt8} {l : List Val} {cs : List PV} (h : VC (.mk k n s l) cs) : I64 k ∧ I64 n ∧ s.length ≤ 140737488355328 ∧ ∃ p, cs = [.int .i64 k, .int .i64 n, .str s, p] ∧ LC l p := by
  cases h with
  | nil k n s hk hn hs => exact ⟨hk, hn, hs, _, rfl, .inl ⟨rfl, rfl⟩⟩
  | sl k n s l xs full hk hn hs hb hl h => exact ⟨hk, hn, hs, _, rfl, .inr ⟨xs, full, rfl, hb, hl, h⟩⟩
theorem LC.vc {k n : Int} {s : List UInt8} {l : List Val} {p : PV} (h : LC l p) (hk : I64 k) (hn : I64 n) (hs : s.length ≤ 140737488355328) : VC (.mk k n s l) [.int .i64 k, .int .i64 n, .str s, p] := by
  rcases h with ⟨rfl, rfl⟩ | ⟨xs, full, rfl, hb, hl, h⟩
  · exact .nil _ _ _ hk hn hs
  · exact .sl _ _ _ _ _ _ hk hn hs hb hl h
theorem VC.len4 {v : Val} {cs : List PV} (h : VC v cs) : cs.length = 4 := by cases h <;> rfl
theorem VC.one {v : Val} {cs : List PV} (h : VC v cs) : cs.all PV.one = true := by cases h <;> rfl
theorem LC.len {l : List Val} {p : PV} (h : LC l p) : lenOf p = some l.length ∧ isStr p = false ∧ l.length ≤ 140737488355328 := by
  rcases h with ⟨rfl, rfl⟩ | ⟨xs, full, rfl, hb, hl, h⟩
  · exact ⟨rfl, rfl, by simp⟩
  · exact ⟨by simp [lenOf, hl], rfl, hb⟩
theorem LC.pl {l : List Val} {p : PV} (h : LC l p) : Pl p := by
  have := (LC.vc (k := 0) (n := 0) (s := []) h (by simp [I64]) (by simp [I64]) (by simp)).pl
  exact this p (by simp)
theorem LC.at {l : List Val} {p : PV} (h : LC l p) {j : Nat} {v : Val} (hv : l[j]? = some v) : ∃ cs, At 4 p j cs ∧ VC v cs := by
  rcases h with ⟨rfl, rfl⟩ | ⟨xs, full, rfl, hb, hl, h⟩
  · simp at hv
  · have hlt : j < xs.length := by have := (List.getElem?_eq_some_iff.1 hv).1; omega
    have hc := h _ v _ hv (List.getElem?_eq_getElem hlt)
    exact ⟨_, ⟨by omega, hc.len4, xs, full, rfl, by simp [hlt]⟩, hc⟩
theorem VC.ind {M : Val → List PV → Prop} (h : ∀ (k n : Int) (s : List UInt8) (l : List Val) (p : PV), I64 k → I64 n → s.length ≤ 140737488355328 → LC l p → (∀ (j : Nat) (v : Val) (cs : List PV), l[j]? = some v → At 4 p j cs → M v cs) → M (.mk k n s l) [.int .i64 k, .int .i64 n, .str s, p]) {v : Val} {cs : List PV} (hv : VC v cs) : M v cs := by
  induction hv with
  | nil k n s hk hn hs => exact h k n s [] .nilSl hk hn hs (.inl ⟨rfl, rfl⟩) (fun j v cs hj => by simp at hj)
  | sl k n s l xs full hk hn hs hb hl hc ih =>
    refine h k n s l _ hk hn hs (.inr ⟨xs, full, rfl, hb, hl, hc⟩) (fun j v cs hj ha => ?_)
    obtain ⟨_, _, ys, f, he, hc2⟩ := ha
    injection he with he1 he2
    subst he1
    exact ih j v cs hj (by simpa using hc2)
end Go.Proofs.YtinojffgmgjblaaGreatDoor
