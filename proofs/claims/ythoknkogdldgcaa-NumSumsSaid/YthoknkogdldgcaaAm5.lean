/- AM5: more operations that change nothing. -/
import Derived.Test.YthoknkogdldgcaaAm4
set_option linter.unusedVariables false
set_option linter.unusedSimpArgs false
namespace Go.AM
open Go.RowKit

section
variable {P : Program} {X : Cx} {st : St} {G : Gh} {w : World} {n : Nat} {ρ : Env} {a : Act}

theorem q_move (hE : EnvRep G (OwnF X st G) w n ρ a) {o : Oper} {x : Operand} (ho : o.op = .move x ∨ o.op = .assign x) {y : Opd} (hy : cOpd x = some y) : QOk P X st G w o a (y.ev ρ) := by
  refine qok_same (u := a.eval x) ?_ (opd_rep hE hy)
  rcases ho with ho | ho <;> simp [execOp, ho]

theorem q_pick (hE : EnvRep G (OwnF X st G) w n ρ a) {o : Oper} {c x y : Operand} (ho : o.op = .pick c x y) {c' x' y' : Opd} (hc : cOpd c = some c') (hx : cOpd x = some x') (hy : cOpd y = some y') {p : PV}
    (hq : pick? (c'.ev ρ) (x'.ev ρ) (y'.ev ρ) = some p) : QOk P X st G w o a p := by
  have hr := opd_rep hE hc
  unfold pick? at hq
  split at hq
  · rename_i t ht
    rw [ht] at hr
    have hb := rep_bool hr
    injection hq with hq
    subst hq
    refine qok_same (u := if t then a.eval x else a.eval y) ?_ ?_
    · simp [execOp, ho, asBool, hb]
    · cases t
      · exact opd_rep hE hy
      · exact opd_rep hE hx
  · cases hq

theorem q_extract (hE : EnvRep G (OwnF X st G) w n ρ a) {o : Oper} {x : Operand} {i : Nat} (ho : o.op = .extract x i) {y : Opd} (hy : cOpd x = some y) {p : PV} (hq : extract? i (y.ev ρ) = some p) : QOk P X st G w o a p := by
  have hr := opd_rep hE hy
  unfold extract? at hq
  split at hq
  · rename_i vs hvs
    rw [hvs] at hr
    obtain ⟨us, hu, hs, hrep⟩ := rep_tuple hr
    have hlt := (List.getElem?_eq_some_iff.1 hq).1
    have hlt' : i < us.size := by omega
    refine qok_same (u := us[i]) ?_ ?_
    · simp [execOp, ho, Instr.extract, hu, Array.getElem?_eq_getElem hlt']
    · have := hrep i p hq
      simpa [Array.getD_eq_getD_getElem?, Array.getElem?_eq_getElem hlt'] using this
  · cases hq

theorem q_mkIface (hE : EnvRep G (OwnF X st G) w n ρ a) {o : Oper} {t : TypeId} {x : Operand} (ho : o.op = .makeInterface t x) (ht : P.concrete t = true) {y : Opd} (hy : cOpd x = some y) : QOk P X st G w o a (.iface t (y.ev ρ)) := by
  refine qok_same (u := .iface t (a.eval x)) ?_ (.iface _ _ _ (opd_rep hE hy))
  simp [execOp, ho, run_makeInterface w t _ ht]

theorem q_mkFunc (hE : EnvRep G (OwnF X st G) w n ρ a) {o : Oper} {f : Nat} {caps : Array Operand} (ho : o.op = .makeFunc (.func f) #[] caps) {ys : List Opd} (hy : cOpds caps.toList = some ys) : QOk P X st G w o a (.func f (ys.map (Opd.ev ρ))) := by
  obtain ⟨h1, h2⟩ := opds_rep hE hy
  refine qok_same (u := .func (.func f) #[] (caps.map a.eval)) ?_ (.func _ _ _ (by simp; simpa using h1) (fun i c hc => ?_))
  · simp [execOp, ho, Instr.makeFunc]
  · have := h2 i c hc
    simpa [Array.getD_eq_getD_getElem?, List.getD_eq_getElem?_getD] using this

theorem q_nilCheck (hE : EnvRep G (OwnF X st G) w n ρ a) {o : Oper} {x : Operand} (ho : o.op = .nilCheck x) {y : Opd} (hy : cOpd x = some y) {p : PV} (hq : nilCheck? (y.ev ρ) = some p) : QOk P X st G w o a p := by
  have hr := opd_rep hE hy
  generalize hev : y.ev ρ = q at hr hq
  generalize hav : a.eval x = v at hr
  cases hr with
  | ptr t off L h => injection hq with hq; subst hq; exact qok_same (by simp [execOp, ho, hav]) (.ptr t off L h)
  | rptr t g i off L h => injection hq with hq; subst hq; exact qok_same (by simp [execOp, ho, hav]) (.rptr t g i off L h)
  | iptr cells off b o' u hc hr => injection hq with hq; subst hq; exact qok_same (by simp [execOp, ho, hav]) (.iptr cells off b o' u hc hr)
  | _ => cases hq

/-! ### Numbers, bools, texts -/
theorem q_neg (hE : EnvRep G (OwnF X st G) w n ρ a) {o : Oper} {t : TypeId} {x : Operand} (ho : o.op = .unOp .neg t x) {y : Opd} (hy : cOpd x = some y) {p : PV} (hq : neg? (y.ev ρ) = some p) : QOk P X st G w o a p := by
  have hr := opd_rep hE hy
  unfold neg? at hq
  split at hq
  · rename_i k i hev
    rw [hev] at hr
    have hv := rep_int hr
    injection hq with hq
    subst hq
    exact qok_same (by simp [execOp, ho, hv, Op.unary, Op.intArith]) (.int _ _)
  · cases hq
theorem q_not (hE : EnvRep G (OwnF X st G) w n ρ a) {o : Oper} {t : TypeId} {x : Operand} (ho : o.op = .unOp .not t x) {y : Opd} (hy : cOpd x = some y) {p : PV} (hq : not? (y.ev ρ) = some p) : QOk P X st G w o a p := by
  have hr := opd_rep hE hy
  unfold not? at hq
  split at hq
  · rename_i b hev
    rw [hev] at hr
    have hv := rep_bool hr
    injection hq with hq
    subst hq
    exact qok_same (by simp [execOp, ho, hv, Op.unary]) (.bool _)
  · cases hq
theorem q_conv (hE : EnvRep G (OwnF X st G) w n ρ a) {o : Oper} {s t : TypeId} {x : Operand} (ho : o.op = .convert s t x) {k : IntKind} {d : TypeDesc} (hs : P.underlying s = some d) (ht : P.underlying t = some (.int k)) {y : Opd} (hy : cOpd x = some y) {p : PV}
    (hq : conv? k (y.ev ρ) = some p) : QOk P X st G w o a p := by
  have hr := opd_rep hE hy
  unfold conv? at hq
  split at hq
  · rename_i k' i hev
    rw [hev] at hr
    have hv := rep_int hr
    injection hq with hq
    subst hq
    exact qok_same (by simp [execOp, ho, hv, convert, run_underlying hs, run_underlying ht, Conv.intToInt]) (.int _ _)
  · cases hq
theorem q_convStr (hE : EnvRep G (OwnF X st G) w n ρ a) {o : Oper} {s t : TypeId} {x : Operand} (ho : o.op = .convert s t x) (hs : P.underlying s = some .string) (ht : P.underlying t = some .string) {y : Opd} (hy : cOpd x = some y) {u : List UInt8}
    (hq : y.ev ρ = .str u) : QOk P X st G w o a (.str u) := by
  have hr := opd_rep hE hy
  rw [hq] at hr
  have hv := rep_str hr
  exact qok_same (by simp [execOp, ho, hv, convert, run_underlying hs, run_underlying ht]) (.str _)

theorem bytesLess_eq : ∀ a b : List UInt8, Op.bytesLess a b = bytesLess a b
  | [], [] => rfl
  | [], _ :: _ => rfl
  | _ :: _, [] => rfl
  | a :: x, b :: y => by simp only [Op.bytesLess, bytesLess, bytesLess_eq x y]

theorem toList_mk (s : List UInt8) : (⟨s.toArray⟩ : ByteArray).toList = s := by
  simp

theorem run_binInt {own : Nat → Prop} {op : BinOp} {t : TypeId} {k k' : IntKind} {i j : Int} {p : PV} (hk : op = .shl ∨ op = .shr ∨ k = k') (h : binInt op k i j = some p) :
    ∃ u, (binOp op t (.int k i) (.int k' j)).run P w = .ok u w ∧ Rep G own w u p := by
  cases op
  case shl =>
    simp only [binInt] at h
    split at h
    · cases h
    · rename_i hb
      injection h with h; subst h
      exact ⟨_, by simp [binOp, Op.shift, hb], .int _ _⟩
  case shr =>
    simp only [binInt] at h
    split at h
    · cases h
    · rename_i hb
      injection h with h; subst h
      exact ⟨_, by simp [binOp, Op.shift, hb], .int _ _⟩
  case quo =>
    have hk' : k = k' := by simpa using hk
    subst hk'
    simp only [binInt] at h
    split at h
    · cases h
    · rename_i hb
      injection h with h; subst h
      exact ⟨_, by simp [binOp, Op.intDiv, hb], .int _ _⟩
  case rem =>
    have hk' : k = k' := by simpa using hk
    subst hk'
    simp only [binInt] at h
    split at h
    · cases h
    · rename_i hb
      injection h with h; subst h
      exact ⟨_, by simp [binOp, Op.intDiv, hb], .int _ _⟩
  all_goals
    have hk' : k = k' := by simpa using hk
    subst hk'
    simp only [binInt] at h
    injection h with h; subst h
  case add => exact ⟨_, by simp [binOp, Op.intArith], .int _ _⟩
  case sub => exact ⟨_, by simp [binOp, Op.intArith], .int _ _⟩
  case mul => exact ⟨_, by simp [binOp, Op.intArith], .int _ _⟩
  case and => exact ⟨_, by simp only [binOp, Op.intBits, ne_eq, not_true_eq_false, if_false, Sem.run_pure], .int _ _⟩
  case or => exact ⟨_, by simp only [binOp, Op.intBits, ne_eq, not_true_eq_false, if_false, Sem.run_pure], .int _ _⟩
  case xor => exact ⟨_, by simp only [binOp, Op.intBits, ne_eq, not_true_eq_false, if_false, Sem.run_pure], .int _ _⟩
  case andNot => exact ⟨_, by simp only [binOp, Op.intBits, ne_eq, not_true_eq_false, if_false, Sem.run_pure], .int _ _⟩
  case eql => exact ⟨.bool (i == j), by simp only [binOp, Op.intCmp, ne_eq, not_true_eq_false, if_false, Sem.run_pure], by rw [show (i == j) = decide (i = j) by rw [Bool.eq_iff_iff]; simp]; exact .bool _⟩
  case neq => exact ⟨.bool (i != j), by simp only [binOp, Op.intCmp, ne_eq, not_true_eq_false, if_false, Sem.run_pure], by rw [show (i != j) = !decide (i = j) by rw [Bool.eq_iff_iff]; simp]; exact .bool _⟩
  case lss => exact ⟨_, by simp only [binOp, Op.intCmp, ne_eq, not_true_eq_false, if_false, Sem.run_pure], .bool _⟩
  case leq => exact ⟨_, by simp only [binOp, Op.intCmp, ne_eq, not_true_eq_false, if_false, Sem.run_pure], .bool _⟩
  case gtr => exact ⟨_, by simp only [binOp, Op.intCmp, ne_eq, not_true_eq_false, if_false, Sem.run_pure], .bool _⟩
  case geq => exact ⟨_, by simp only [binOp, Op.intCmp, ne_eq, not_true_eq_false, if_false, Sem.run_pure], .bool _⟩

theorem run_binStr {own : Nat → Prop} {op : BinOp} {t : TypeId} {s u : List UInt8} {p : PV} (h : binStr op s u = some p) :
    ∃ v, (binOp op t (.string ⟨s.toArray⟩) (.string ⟨u.toArray⟩)).run P w = .ok v w ∧ Rep G own w v p := by
  have hd : (s == u) = decide (s = u) := by rw [Bool.eq_iff_iff]; simp
  cases op <;> simp only [binStr] at h
  case add =>
    split at h
    · cases h
    · rename_i hb
      injection h with h; subst h
      have : ¬ (((⟨s.toArray⟩ : ByteArray).size + (⟨u.toArray⟩ : ByteArray).size : Nat) : Int) > IntKind.i64.max := by
        intro hc; exact hb (by simpa [ByteArray.size, IntKind.max, IntKind.signed, IntKind.bits] using hc)
      refine ⟨.string (⟨s.toArray⟩ ++ ⟨u.toArray⟩), by simp only [binOp, Op.stringOp, if_neg this]; rfl, ?_⟩
      have : (⟨s.toArray⟩ ++ ⟨u.toArray⟩ : ByteArray) = ⟨(s ++ u).toArray⟩ := by
        apply ByteArray.ext
        simp
      rw [this]
      exact .str _
  all_goals first
    | (cases h; done)
    | (injection h with h; subst h; exact ⟨_, by simp only [binOp, Op.stringOp, toList_mk, bytesLess_eq, hd]; rfl, .bool _⟩)

def intLike : TypeDesc → Bool
  | .bool | .int _ | .string => true
  | _ => false

theorem q_bin (hE : EnvRep G (OwnF X st G) w n ρ a) {o : Oper} {op : BinOp} {t t' : TypeId} {x y : Operand} (ho : o.op = .binOp op t x y t') {d : TypeDesc} (ht : P.underlying t = some d) (hd : intLike d = true) {x' y' : Opd} (hx : cOpd x = some x') (hy : cOpd y = some y') {p : PV}
    (hq : binOp? op (x'.ev ρ) (y'.ev ρ) = some p) : QOk P X st G w o a p := by
  have hrx := opd_rep hE hx
  have hry := opd_rep hE hy
  unfold binOp? at hq
  split at hq
  · rename_i k i k' j hi hj
    rw [hi] at hrx
    rw [hj] at hry
    have h1 := rep_int hrx
    have h2 := rep_int hry
    split at hq
    · rename_i hk
      obtain ⟨u, hu, hr⟩ := run_binInt (P := P) (t := t) (w := w) (G := G) (own := OwnF X st G) hk hq
      refine qok_same (u := u) ?_ hr
      have hg : eqGuard op t x y (.int k i) (.int k' j) = pure () := by cases op <;> rfl
      simp only [execOp, ho, h1, h2, hg]
      simp [hu]
    · cases hq
  · rename_i s u hi hj
    rw [hi] at hrx
    rw [hj] at hry
    have h1 := rep_str hrx
    have h2 := rep_str hry
    obtain ⟨v, hv, hr⟩ := run_binStr (P := P) (t := t) (w := w) (G := G) (own := OwnF X st G) hq
    refine qok_same (u := v) ?_ hr
    have hg : eqGuard op t x y (.string ⟨s.toArray⟩) (.string ⟨u.toArray⟩) = pure () := by cases op <;> rfl
    simp only [execOp, ho, h1, h2, hg]
    simp [hv]
  · cases hq

theorem q_eqBool (hE : EnvRep G (OwnF X st G) w n ρ a) {o : Oper} {neq : Bool} {t t' : TypeId} {x y : Operand} (ho : o.op = .binOp (if neq then .neq else .eql) t x y t') (ht : P.underlying t = some .bool) {x' y' : Opd} (hx : cOpd x = some x') (hy : cOpd y = some y') {b : Bool}
    (hq : eqBool? (x'.ev ρ) (y'.ev ρ) = some b) : QOk P X st G w o a (.bool (if neq then !b else b)) := by
  have hrx := opd_rep hE hx
  have hry := opd_rep hE hy
  unfold eqBool? at hq
  split at hq
  · rename_i b1 b2 hi hj
    rw [hi] at hrx
    rw [hj] at hry
    have h1 := rep_bool hrx
    have h2 := rep_bool hry
    injection hq with hq
    subst hq
    have hg : eqGuard (if neq then .neq else .eql) t x y (.bool b1) (.bool b2) = pure () := by cases neq <;> rfl
    have he : ∀ w : World, (Op.equal t (.bool b1) (.bool b2)).run P w = .ok (b1 == b2) w := fun w => by
      rw [Op.equal, show Op.maxDepth = 9999 + 1 from rfl, Op.equalIn]
      simp [run_underlying ht]
    refine qok_same ?_ (.bool _)
    simp only [execOp, ho, h1, h2, hg]
    cases neq <;> simp [binOp, he]
  · cases hq

end
end Go.AM
