/- AM16: the instruction of an operation; that its step is the operation's. -/
import Derived.Test.YthoknkogdldgcaaAm15
set_option linter.unusedVariables false
set_option linter.unusedSimpArgs false
namespace Go.AM
open Go.RowKit

def cConv (P : Program) (s t : TypeId) (x : Operand) : Option PI :=
  match P.underlying s, P.underlying t, cOpd x with
  | some _, some (.int k), some y => some (.conv k y)
  | some .string, some .string, some y => some (.textId y)
  | some .string, some (.slice e), some y => match P.underlying e with
    | some (.int .u8) => some (.toBytes y)
    | _ => none
  | some (.slice e), some .string, some y => match P.underlying e with
    | some (.int .u8) => some (.toStr y)
    | _ => none
  | _, _, _ => none
def cBin (P : Program) (op : BinOp) (t : TypeId) (x y : Operand) : Option PI :=
  match P.underlying t, cOpd x, cOpd y with
  | some .bool, some x', some y' => match op with
    | .eql => some (.eqBool false x' y')
    | .neq => some (.eqBool true x' y')
    | _ => none
  | some (.int _), some x', some y' => some (.bin op x' y')
  | some .string, some x', some y' => some (.bin op x' y')
  | some d, some x', some _ => match nilKind d with
    | some (k, _) => if isConstNil k y = true then (match op with
      | .eql => some (.eqNil false k x')
      | .neq => some (.eqNil true k x')
      | _ => none) else none
    | none => none
  | _, _, _ => none
def cBuiltin (P : Program) (b : Builtin) (ts : List TypeId) (xs : List Operand) : Option PI :=
  match b with
  | .len => match ts, xs with
    | [t], [x] => match P.underlying t, cOpd x with
      | some d, some y => (lenKind d).map fun txt => .len txt y
      | _, _ => none
    | _, _ => none
  | .cap => match ts, xs with
    | [t], [x] => match P.underlying t, cOpd x with
      | some (.slice _), some y => some (.cap y)
      | _, _ => none
    | _, _ => none
  | .append => cAppend P ts xs
  | .copy => cCopy P ts xs
  | .max => (cOpds xs).map (.minmax true)
  | .min => (cOpds xs).map (.minmax false)
  | _ => none
def cOp (P : Program) : Op → Option PI
  | .move x => (cOpd x).map .move
  | .assign x => (cOpd x).map .move
  | .pick c x y => match cOpd c, cOpd x, cOpd y with
    | some c', some x', some y' => some (.pick c' x' y')
    | _, _, _ => none
  | .load t x => cLoad P t x
  | .store t x y => cStore P t x y
  | .alloc t => (zeroOf P t).map .alloc
  | .box _ x => (cOpd x).map .box
  | .build t ps => cBuild P t ps.toList
  | .buildSlice t l ps => cBuildSl P t l ps.toList
  | .fieldAddr s x f => cFieldAddr P s x f
  | .field s x f => cField P s x f
  | .indexAddr t x i => cIndexAddr P t x i
  | .index t x i => cIndex P t x i
  | .slice t x lo hi mx => cSlice P t x lo hi mx
  | .convert s t x => cConv P s t x
  | .unOp op _ x => match op with
    | .neg => (cOpd x).map .neg
    | .not => (cOpd x).map .not
    | _ => none
  | .binOp op t x y _ => cBin P op t x y
  | .extract x i => (cOpd x).map fun y => .extract y i
  | .makeInterface t x => if P.concrete t = true then (cOpd x).map (.mkIface t) else none
  | .makeFunc fn first caps => match fn, first.toList with
    | .func f, [] => (cOpds caps.toList).map (.mkFunc f)
    | _, _ => none
  | .makeSlice t l c => cMakeSl P t l c
  | .nilCheck x => (cOpd x).map .nilCheck
  | .call c => match c.callee with
    | .builtin b => cBuiltin P b c.argTypes.toList c.args.toList
    | .value f => match cOpd f, cOpds c.args.toList with
      | some f', some xs => some (.call f' xs)
      | _, _ => none
    | _ => none
  | _ => none

section
variable {P : Program} {X : Cx} {st : St} {G : Gh} {w : World} {n : Nat} {ρ : Env} {a : Act}

theorem arr1 {α : Type} {xs : Array α} {x : α} (h : xs.toList = [x]) : xs = #[x] := by cases xs; simp_all

theorem step_builtin (hI : Inv X st G w) (hE : EnvRep G (OwnF X st G) w n ρ a) {o : Oper} {b : Builtin} {ts : Array TypeId} {xs : Array Operand} (ho : o.op = .call { callee := .builtin b, args := xs, argTypes := ts }) {pi : PI} (hc : cBuiltin P b ts.toList xs.toList = some pi) :
    (∀ p, quiet st.get (Opd.ev ρ) pi = some p → QOk P X st G w o a p) ∧ ∀ p st', loud st (Opd.ev ρ) pi = some (p, st') → LOk P X st G w o a p st' := by
  unfold cBuiltin at hc
  split at hc
  · split at hc
    · rename_i t x hts hxs
      split at hc
      · rename_i d y hd hy
        obtain ⟨txt, hk, rfl⟩ := Option.map_eq_some_iff.1 hc
        rw [arr1 hts, arr1 hxs] at ho
        refine ⟨fun p hp => ?_, fun p st' h => by cases h⟩
        simp only [quiet] at hp
        split at hp
        · rename_i hkk
          obtain ⟨m, hm, rfl⟩ := Option.map_eq_some_iff.1 hp
          exact q_len hE ho hd hk hy hkk hm
        · cases hp
      · cases hc
    · cases hc
  · split at hc
    · rename_i t x hts hxs
      split at hc
      · rename_i e y hd hy
        injection hc with hc
        subst hc
        rw [arr1 hts, arr1 hxs] at ho
        refine ⟨fun p hp => ?_, fun p st' h => by cases h⟩
        simp only [quiet] at hp
        obtain ⟨m, hm, rfl⟩ := Option.map_eq_some_iff.1 hp
        exact q_cap hE ho hd hy hm
      · cases hc
    · cases hc
  · refine ⟨fun p hp => ?_, fun p st' h => l_append hI hE ho hc h⟩
    unfold cAppend at hc
    (repeat' split at hc) <;> first | (cases hc; done) | (injection hc with hc; subst hc; cases hp)
  · refine ⟨fun p hp => ?_, fun p st' h => l_copy hI hE ho hc h⟩
    unfold cCopy at hc
    (repeat' split at hc) <;> first | (cases hc; done) | (injection hc with hc; subst hc; cases hp)
  · obtain ⟨ys, hy, rfl⟩ := Option.map_eq_some_iff.1 hc
    exact ⟨fun p hp => q_minmax (mx := true) hE ho hy hp, fun p st' h => by cases h⟩
  · obtain ⟨ys, hy, rfl⟩ := Option.map_eq_some_iff.1 hc
    exact ⟨fun p hp => q_minmax (mx := false) hE ho hy hp, fun p st' h => by cases h⟩
  · cases hc

theorem step_bin (hI : Inv X st G w) (hE : EnvRep G (OwnF X st G) w n ρ a) {o : Oper} {op : BinOp} {t t' : TypeId} {x y : Operand} (ho : o.op = .binOp op t x y t') {pi : PI} (hc : cBin P op t x y = some pi) :
    (∀ p, quiet st.get (Opd.ev ρ) pi = some p → QOk P X st G w o a p) ∧ ∀ p st', loud st (Opd.ev ρ) pi = some (p, st') → LOk P X st G w o a p st' := by
  unfold cBin at hc
  split at hc
  · rename_i x' y' hd hx hy
    split at hc
    · injection hc with hc
      subst hc
      refine ⟨fun p hp => ?_, fun p st' h => by cases h⟩
      simp only [quiet] at hp
      obtain ⟨b, hb, rfl⟩ := Option.map_eq_some_iff.1 hp
      exact q_eqBool (neq := false) hE ho hd hx hy hb
    · injection hc with hc
      subst hc
      refine ⟨fun p hp => ?_, fun p st' h => by cases h⟩
      simp only [quiet] at hp
      obtain ⟨b, hb, rfl⟩ := Option.map_eq_some_iff.1 hp
      exact q_eqBool (neq := true) hE ho hd hx hy hb
    · cases hc
  · rename_i k x' y' hd hx hy
    injection hc with hc
    subst hc
    exact ⟨fun p hp => q_bin hE ho hd rfl hx hy hp, fun p st' h => by cases h⟩
  · rename_i x' y' hd hx hy
    injection hc with hc
    subst hc
    exact ⟨fun p hp => q_bin hE ho hd rfl hx hy hp, fun p st' h => by cases h⟩
  · rename_i d x' y' h1 h2 h3 hd hx hy
    split at hc
    · rename_i k z hk
      split at hc
      · rename_i hcn
        have hyz := isConstNil_spec hk hcn
        subst hyz
        split at hc
        · injection hc with hc
          subst hc
          refine ⟨fun p hp => ?_, fun p st' h => by cases h⟩
          simp only [quiet] at hp
          obtain ⟨b, hb, rfl⟩ := Option.map_eq_some_iff.1 hp
          exact q_eqNil (neq := false) hE hk ho hd hx hb
        · injection hc with hc
          subst hc
          refine ⟨fun p hp => ?_, fun p st' h => by cases h⟩
          simp only [quiet] at hp
          obtain ⟨b, hb, rfl⟩ := Option.map_eq_some_iff.1 hp
          exact q_eqNil (neq := true) hE hk ho hd hx hb
        · cases hc
      · cases hc
    · cases hc
  · cases hc

theorem step_conv (hI : Inv X st G w) (hE : EnvRep G (OwnF X st G) w n ρ a) {o : Oper} {s t : TypeId} {x : Operand} (ho : o.op = .convert s t x) {pi : PI} (hc : cConv P s t x = some pi) :
    (∀ p, quiet st.get (Opd.ev ρ) pi = some p → QOk P X st G w o a p) ∧ ∀ p st', loud st (Opd.ev ρ) pi = some (p, st') → LOk P X st G w o a p st' := by
  unfold cConv at hc
  split at hc
  · rename_i d k y hs ht hy
    injection hc with hc
    subst hc
    exact ⟨fun p hp => q_conv hE ho hs ht hy hp, fun p st' h => by cases h⟩
  · rename_i y hs ht hy
    injection hc with hc
    subst hc
    refine ⟨fun p hp => ?_, fun p st' h => by cases h⟩
    simp only [quiet] at hp
    split at hp
    · rename_i u hu
      injection hp with hp
      subst hp
      exact q_convStr hE ho hs ht hy hu
    · cases hp
  · rename_i e y hs ht hy
    split at hc
    · rename_i he
      injection hc with hc
      subst hc
      refine ⟨fun p hp => ?_, fun p st' h => ?_⟩
      · simp only [quiet] at hp
        split at hp
        · rename_i u hu
          injection hp with hp
          subst hp
          exact q_toBytes hI hE ho hs ht he hy hu
        · cases hp
      · simp only [loud] at h
        split at h
        · rename_i u hu
          injection h with h
          simp only [Prod.mk.injEq] at h
          obtain ⟨rfl, rfl⟩ := h
          exact l_toBytes hI hE ho hs ht he hy hu
        · cases h
    · cases hc
  · rename_i e y hs ht hy
    split at hc
    · rename_i he
      injection hc with hc
      subst hc
      refine ⟨fun p hp => ?_, fun p st' h => by cases h⟩
      simp only [quiet] at hp
      obtain ⟨es, h1, h2⟩ := Option.bind_eq_some_iff.1 hp
      obtain ⟨bs, h3, rfl⟩ := Option.map_eq_some_iff.1 h2
      exact q_toStr hI hE ho hs he ht hy h1 h3
    · cases hc
  · cases hc

/-- Every operation's step. -/
theorem step_sound (hI : Inv X st G w) (hE : EnvRep G (OwnF X st G) w n ρ a) {o : Oper} {pi : PI} (hc : cOp P o.op = some pi) :
    (∀ p, quiet st.get (Opd.ev ρ) pi = some p → QOk P X st G w o a p) ∧ ∀ p st', loud st (Opd.ev ρ) pi = some (p, st') → LOk P X st G w o a p st' := by
  cases ho : o.op with
  | move x =>
    rw [ho] at hc
    obtain ⟨y, hy, rfl⟩ := Option.map_eq_some_iff.1 hc
    exact ⟨fun p hp => by injection hp with hp; subst hp; exact q_move hE (.inl ho) hy, fun p st' h => by cases h⟩
  | assign x =>
    rw [ho] at hc
    obtain ⟨y, hy, rfl⟩ := Option.map_eq_some_iff.1 hc
    exact ⟨fun p hp => by injection hp with hp; subst hp; exact q_move hE (.inr ho) hy, fun p st' h => by cases h⟩
  | pick c x y =>
    rw [ho] at hc
    simp only [cOp] at hc
    split at hc
    · rename_i c' x' y' h1 h2 h3
      injection hc with hc
      subst hc
      exact ⟨fun p hp => q_pick hE ho h1 h2 h3 hp, fun p st' h => by cases h⟩
    · cases hc
  | load t x =>
    rw [ho] at hc
    simp only [cOp] at hc
    refine ⟨fun p hp => q_load hI hE ho hc hp, fun p st' h => ?_⟩
    unfold cLoad at hc
    (repeat' split at hc) <;> first | (cases hc; done) | (injection hc with hc; subst hc; cases h)
  | store t x y =>
    rw [ho] at hc
    simp only [cOp] at hc
    refine ⟨fun p hp => ?_, fun p st' h => l_store hI hE ho hc h⟩
    unfold cStore at hc
    split at hc
    · injection hc with hc; subst hc; cases hp
    · cases hc
  | alloc t =>
    rw [ho] at hc
    obtain ⟨zs, hz, rfl⟩ := Option.map_eq_some_iff.1 hc
    refine ⟨fun p hp => (by cases hp), fun p st' h => ?_⟩
    simp only [loud, Option.some.injEq, Prod.mk.injEq] at h
    obtain ⟨rfl, rfl⟩ := h
    exact l_alloc hI ho hz
  | box t x =>
    rw [ho] at hc
    obtain ⟨y, hy, rfl⟩ := Option.map_eq_some_iff.1 hc
    refine ⟨fun p hp => (by cases hp), fun p st' h => ?_⟩
    simp only [loud] at h
    split at h
    · rename_i hj
      simp only [Option.some.injEq, Prod.mk.injEq] at h
      obtain ⟨rfl, rfl⟩ := h
      exact l_box hI hE ho hy hj
    · cases h
  | build t ps =>
    rw [ho] at hc
    simp only [cOp] at hc
    refine ⟨fun p hp => q_build hE ho hc hp, fun p st' h => ?_⟩
    unfold cBuild at hc
    (repeat' split at hc) <;> first | (cases hc; done) | (obtain ⟨qs, _, rfl⟩ := Option.map_eq_some_iff.1 hc; cases h)
  | buildSlice t l ps =>
    rw [ho] at hc
    simp only [cOp] at hc
    have hform : ∃ sz zero qs, pi = .buildSl sz zero qs := by
      unfold cBuildSl at hc
      (repeat' split at hc) <;> first | (cases hc; done) | (obtain ⟨qs, _, rfl⟩ := Option.map_eq_some_iff.1 hc; exact ⟨_, _, _, rfl⟩)
    obtain ⟨sz, zero, qs, rfl⟩ := hform
    refine ⟨fun p hp => ?_, fun p st' h => ?_⟩
    · simp only [quiet] at hp
      split at hp
      · obtain ⟨es, he, rfl⟩ := Option.map_eq_some_iff.1 hp
        exact q_buildSl hI hE ho hc he
      · cases hp
    · simp only [loud] at h
      split at h
      · obtain ⟨es, he, h⟩ := Option.map_eq_some_iff.1 h
        simp only [Prod.mk.injEq] at h
        obtain ⟨rfl, rfl⟩ := h
        exact l_buildSl hI hE ho hc he
      · cases h
  | fieldAddr s x f =>
    rw [ho] at hc
    simp only [cOp] at hc
    refine ⟨fun p hp => q_fieldAddr hE ho hc hp, fun p st' h => ?_⟩
    unfold cFieldAddr at hc
    (repeat' split at hc) <;> first | (cases hc; done) | (injection hc with hc; subst hc; cases h)
  | field s x f =>
    rw [ho] at hc
    simp only [cOp] at hc
    refine ⟨fun p hp => q_field hE ho hc hp, fun p st' h => ?_⟩
    unfold cField at hc
    (repeat' split at hc) <;> first | (cases hc; done) | (injection hc with hc; subst hc; cases h)
  | indexAddr t x i =>
    rw [ho] at hc
    simp only [cOp] at hc
    refine ⟨fun p hp => q_indexAddr hI hE ho hc hp, fun p st' h => ?_⟩
    unfold cIndexAddr at hc
    (repeat' split at hc) <;> first | (cases hc; done) | (injection hc with hc; subst hc; cases h)
  | index t x i =>
    rw [ho] at hc
    simp only [cOp] at hc
    refine ⟨fun p hp => q_index hE ho hc hp, fun p st' h => ?_⟩
    unfold cIndex at hc
    (repeat' split at hc) <;> first | (cases hc; done) | (injection hc with hc; subst hc; cases h)
  | slice t x lo hi mx =>
    rw [ho] at hc
    simp only [cOp] at hc
    refine ⟨fun p hp => q_slice hI hE ho hc hp, fun p st' h => ?_⟩
    unfold cSlice at hc
    (repeat' split at hc) <;> first | (cases hc; done) | (injection hc with hc; subst hc; cases h)
  | convert s t x =>
    rw [ho] at hc
    exact step_conv hI hE ho hc
  | unOp op t x =>
    rw [ho] at hc
    simp only [cOp] at hc
    cases op with
    | neg =>
      obtain ⟨y, hy, rfl⟩ := Option.map_eq_some_iff.1 hc
      exact ⟨fun p hp => q_neg hE ho hy hp, fun p st' h => by cases h⟩
    | not =>
      obtain ⟨y, hy, rfl⟩ := Option.map_eq_some_iff.1 hc
      exact ⟨fun p hp => q_not hE ho hy hp, fun p st' h => by cases h⟩
    | _ => cases hc
  | binOp op t x y t' =>
    rw [ho] at hc
    exact step_bin hI hE ho hc
  | extract x i =>
    rw [ho] at hc
    obtain ⟨y, hy, rfl⟩ := Option.map_eq_some_iff.1 hc
    exact ⟨fun p hp => q_extract hE ho hy hp, fun p st' h => by cases h⟩
  | makeInterface t x =>
    rw [ho] at hc
    simp only [cOp] at hc
    split at hc
    · rename_i ht
      obtain ⟨y, hy, rfl⟩ := Option.map_eq_some_iff.1 hc
      exact ⟨fun p hp => by injection hp with hp; subst hp; exact q_mkIface hE ho ht hy, fun p st' h => by cases h⟩
    · cases hc
  | makeFunc fn first caps =>
    rw [ho] at hc
    simp only [cOp] at hc
    split at hc
    · rename_i f hf
      have : first = #[] := by cases first; simp_all
      subst this
      obtain ⟨ys, hy, rfl⟩ := Option.map_eq_some_iff.1 hc
      exact ⟨fun p hp => by injection hp with hp; subst hp; exact q_mkFunc hE ho hy, fun p st' h => by cases h⟩
    · cases hc
  | makeSlice t l c =>
    rw [ho] at hc
    simp only [cOp] at hc
    refine ⟨fun p hp => ?_, fun p st' h => l_makeSl hI hE ho hc h⟩
    unfold cMakeSl at hc
    (repeat' split at hc) <;> first | (cases hc; done) | (injection hc with hc; subst hc; cases hp)
  | nilCheck x =>
    rw [ho] at hc
    obtain ⟨y, hy, rfl⟩ := Option.map_eq_some_iff.1 hc
    exact ⟨fun p hp => q_nilCheck hE ho hy hp, fun p st' h => by cases h⟩
  | call c =>
    rw [ho] at hc
    simp only [cOp] at hc
    obtain ⟨callee, args, argTypes⟩ := c
    split at hc
    · rename_i b hb
      simp only at hb
      subst hb
      exact step_builtin hI hE ho hc
    · split at hc
      · injection hc with hc
        subst hc
        exact ⟨fun p hp => (by cases hp), fun p st' h => (by cases h)⟩
      · cases hc
    · cases hc
  | _ => rw [ho] at hc; cases hc
end
end Go.AM
