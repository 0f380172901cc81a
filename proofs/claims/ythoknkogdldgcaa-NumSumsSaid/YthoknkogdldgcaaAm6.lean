/- AM6: slices, texts and structs that are read or put together. -/
import Derived.Test.YthoknkogdldgcaaAm5
set_option linter.unusedVariables false
set_option linter.unusedSimpArgs false
namespace Go.AM
open Go.RowKit

section
variable {P : Program} {X : Cx} {st : St} {G : Gh} {w : World} {n : Nat} {ρ : Env} {a : Act}

def nilKind : TypeDesc → Option (Nat × Value)
  | .slice _ => some (0, .slice none 0 0)
  | .pointer _ => some (1, .pointer none)
  | .func _ _ _ => some (2, .nilFunc)
  | .interface _ => some (3, .nilIface)
  | _ => none
def isConstNil (kind : Nat) : Operand → Bool
  | .const (.slice none 0 0) => kind == 0
  | .const (.pointer none) => kind == 1
  | .const .nilFunc => kind == 2
  | .const .nilIface => kind == 3
  | _ => false
theorem isConstNil_spec {d : TypeDesc} {kind : Nat} {z : Value} (hd : nilKind d = some (kind, z)) {y : Operand} (h : isConstNil kind y = true) : y = .const z := by
  have key : ∀ (k : Nat) (z : Value), k = kind → isConstNil k y = true → (k = 0 → z = .slice none 0 0) → (k = 1 → z = .pointer none) → (k = 2 → z = .nilFunc) → (k = 3 → z = .nilIface) → y = .const z := by
    intro k z hk h h0 h1 h2 h3
    unfold isConstNil at h
    split at h
    · rw [h0 (by simpa using h)]
    · rw [h1 (by simpa using h)]
    · rw [h2 (by simpa using h)]
    · rw [h3 (by simpa using h)]
    · cases h
  cases d <;> simp only [nilKind, Option.some.injEq, Prod.mk.injEq, reduceCtorEq] at hd <;> obtain ⟨hk, hz⟩ := hd <;> subst hk <;> subst hz <;>
    exact key _ _ rfl h (by intro h; first | rfl | cases h) (by intro h; first | rfl | cases h) (by intro h; first | rfl | cases h) (by intro h; first | rfl | cases h)
theorem q_eqNil (hE : EnvRep G (OwnF X st G) w n ρ a) {o : Oper} {neq : Bool} {t t' : TypeId} {x : Operand} {d : TypeDesc} {kind : Nat} {z : Value} (hz : nilKind d = some (kind, z)) (ho : o.op = .binOp (if neq then .neq else .eql) t x (.const z) t') (ht : P.underlying t = some d) {x' : Opd} (hx : cOpd x = some x') {b : Bool}
    (hq : isNil kind (x'.ev ρ) = some b) : QOk P X st G w o a (.bool (if neq then !b else b)) := by
  have hr := opd_rep hE hx
  generalize hav : a.eval x = v at hr
  generalize hev : x'.ev ρ = p at hr hq
  have hzv : a.eval (.const z) = z := rfl
  have hg : eqGuard (if neq then .neq else .eql) t x (.const z) v z = pure () := by
    cases d <;> simp only [nilKind, Option.some.injEq, Prod.mk.injEq, reduceCtorEq] at hz <;> obtain ⟨hk, hz⟩ := hz <;> subst hk <;> subst hz <;> cases hr <;> first
      | (simp [isNil] at hq; done)
      | (cases neq <;> simp [eqGuard]; done)
  have he : ∀ w' : World, (Op.equal t v z).run P w' = .ok b w' := fun w' => by
    rw [Op.equal, show Op.maxDepth = 9999 + 1 from rfl, Op.equalIn]
    cases d <;> simp [nilKind] at hz <;> obtain ⟨rfl, rfl⟩ := hz <;> cases hr <;> simp [isNil] at hq <;> subst hq <;> simp [run_underlying ht]
  refine qok_same ?_ (.bool _)
  simp only [execOp, ho, hav, hzv, hg]
  have hb : ∀ w' : World, (binOp (if neq then .neq else .eql) t v z).run P w' = .ok (.bool (if neq then !b else b)) w' := fun w' => by
    cases d <;> simp [nilKind] at hz <;> obtain ⟨rfl, rfl⟩ := hz <;> cases neq <;> cases hr <;> simp [isNil] at hq <;> subst hq <;> simp only [binOp, Bool.false_eq_true, if_false, if_true] <;> simp [he]
  simp [hb]
end
end Go.AM
