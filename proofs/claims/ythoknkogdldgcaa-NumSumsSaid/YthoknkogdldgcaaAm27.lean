/- AM27: the words of arithmetic; the table; plain equations. -/
import Derived.Test.YthoknkogdldgcaaAm26
set_option linter.unusedVariables false
set_option linter.unusedSimpArgs false
namespace Go.AM
open Go.RowKit

def lkF (f : Nat) : List (Nat × PF) → Option PF
  | [] => none
  | (k, p) :: r => match Nat.beq f k with
    | true => some p
    | false => lkF f r
theorem lkF_mem {f : Nat} {pf : PF} : ∀ {l : List (Nat × PF)}, lkF f l = some pf → (f, pf) ∈ l
  | [], h => by cases h
  | (k, p) :: r, h => by
    simp only [lkF] at h
    cases hb : Nat.beq f k with
    | true =>
      rw [hb] at h
      injection h with h
      subst h
      rw [Nat.eq_of_beq_eq_true hb]
      exact List.mem_cons_self
    | false => rw [hb] at h; exact List.mem_cons_of_mem _ (lkF_mem h)
theorem lkF_all {P : Program} {l : List (Nat × PF)} (h : ∀ x ∈ l, FnOK P x.1 x.2) : ∀ f pf, lkF f l = some pf → FnOK P f pf := fun f pf hf => h _ (lkF_mem hf)

theorem wrap_i64 (x : Int) : IntKind.i64.wrap x = (x + 9223372036854775808) % 18446744073709551616 - 9223372036854775808 := by
  unfold IntKind.wrap
  simp [IntKind.bits, IntKind.signed, Int.bmod_def]
  omega
theorem wrap_u64 (x : Int) : IntKind.u64.wrap x = x % 18446744073709551616 := by
  unfold IntKind.wrap
  simp [IntKind.bits, IntKind.signed]
theorem wrap_u8 (x : Int) : IntKind.u8.wrap x = x % 256 := by
  unfold IntKind.wrap
  simp [IntKind.bits, IntKind.signed]
section
variable {T : Tb} {Q : Post} {k : List Fr} {ρ : EC} {st : St} {l : List POp} {kill : List Nat}
theorem O_quo {d : Option Nat} {x y : Opd} {kk : IntKind} {a b : Int} (hx : x.get ρ = some (.int kk a)) (hy : y.get ρ = some (.int kk b)) (hb : decide (b = 0) = false) (h : VO T Q l kill k (ρ.sets d (.int kk (kk.wrap (a.tdiv b)))) st) : VO T Q (⟨d, none, .bin .quo x y⟩ :: l) kill k ρ st :=
  O_step (by simp only [stepQ, get2, hx, hy, binOp?, binInt]; simp at hb; simp [hb]) h
theorem O_rem {d : Option Nat} {x y : Opd} {kk : IntKind} {a b : Int} (hx : x.get ρ = some (.int kk a)) (hy : y.get ρ = some (.int kk b)) (hb : decide (b = 0) = false) (h : VO T Q l kill k (ρ.sets d (.int kk (a.tmod b))) st) : VO T Q (⟨d, none, .bin .rem x y⟩ :: l) kill k ρ st :=
  O_step (by simp only [stepQ, get2, hx, hy, binOp?, binInt]; simp at hb; simp [hb]) h
theorem V_cEq {x : EX} {k' : List Fr} {c : Opd} {a b : PC} {α : Type} {y : α} [inst : Decidable (y = y)] (ha : adv 200 k x = (.code (.cond c a b) :: k', .normal)) (hc : c.get ρ = some (.bool (decide (y = y)))) (h1 : V T Q (.code a :: k') .normal ρ st) : V T Q k x ρ st := V_cT ha (by rw [hc]; simp) h1
theorem V_cNe {x : EX} {k' : List Fr} {c : Opd} {a b : PC} {α : Type} {y : α} [inst : Decidable (y = y)] (ha : adv 200 k x = (.code (.cond c a b) :: k', .normal)) (hc : c.get ρ = some (.bool (!decide (y = y)))) (h1 : V T Q (.code b :: k') .normal ρ st) : V T Q k x ρ st := V_cF ha (by rw [hc]; simp) h1
theorem O_gEq {d : Option Nat} {op : PI} {t : Nat} {α : Type} {y : α} [inst : Decidable (y = y)] (hg : ρ.get t = some (.bool (decide (y = y)))) (h1 : VO T Q (⟨d, none, op⟩ :: l) kill k (.put t (.bool true) ρ) st) : VO T Q (⟨d, some (t, true), op⟩ :: l) kill k ρ st := O_gS hg (fun _ => h1) (fun h => by simp at h)
theorem O_gNe {d : Option Nat} {op : PI} {t : Nat} {α : Type} {y : α} [inst : Decidable (y = y)] (hg : ρ.get t = some (.bool (!decide (y = y)))) (h1 : VO T Q (⟨d, none, op⟩ :: l) kill k (.put t (.bool false) ρ) st) : VO T Q (⟨d, some (t, false), op⟩ :: l) kill k ρ st := O_gS hg (fun _ => h1) (fun h => by simp at h)
/-- A step that needs a reason. -/
theorem O_by {d : Option Nat} {op : PI} (p : PV) (hq : stepQ st.get ρ op = some p) (h : VO T Q l kill k (ρ.sets d p) st) : VO T Q (⟨d, none, op⟩ :: l) kill k ρ st := O_step hq h
end
end Go.AM
