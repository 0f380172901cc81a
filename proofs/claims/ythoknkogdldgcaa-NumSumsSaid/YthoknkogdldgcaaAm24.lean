/- AM24: steps that reckon themselves. -/
import Derived.Test.YthoknkogdldgcaaAm23
set_option linter.unusedVariables false
set_option linter.unusedSimpArgs false
namespace Go.AM
open Go.RowKit

/-- What is known of the temporaries. -/
inductive EC where
  | nil
  | put (t : Nat) (p : PV) (e : EC)
  | drop (ts : List Nat) (e : EC)
def has (t : Nat) : List Nat → Bool
  | [] => false
  | x :: r => match Nat.beq t x with
    | true => true
    | false => has t r
def EC.get (t : Nat) : EC → Option PV
  | .nil => none
  | .put u p e => match Nat.beq t u with
    | true => some p
    | false => EC.get t e
  | .drop ts e => match has t ts with
    | true => none
    | false => EC.get t e
def EC.sets (e : EC) (d : Option Nat) (p : PV) : EC :=
  match d with
  | some t => .put t p e
  | none => e
def Sub (e : EC) (ρ : Env) : Prop := ∀ t p, e.get t = some p → getA t ρ = some p
theorem has_contains (t : Nat) : ∀ ts : List Nat, ts.contains t = has t ts
  | [] => rfl
  | x :: r => by
    simp only [has, List.contains_cons, ← has_contains t r]
    cases h : Nat.beq t x with
    | true => simp [Nat.eq_of_beq_eq_true h]
    | false => simp [Nat.ne_of_beq_eq_false h]
theorem Sub.sets {e : EC} {ρ : Env} (h : Sub e ρ) (d : Option Nat) (p : PV) : Sub (e.sets d p) (Env.put ρ d p) := by
  intro t q hq
  cases d with
  | none => exact h t q hq
  | some d =>
    simp only [EC.sets, EC.get] at hq
    simp only [Env.put, getA_putA]
    cases hb : Nat.beq t d with
    | true =>
      rw [hb] at hq
      injection hq with hq
      rw [if_pos (Nat.eq_of_beq_eq_true hb).symm, hq]
    | false =>
      rw [hb] at hq
      rw [if_neg (fun e => Nat.ne_of_beq_eq_false hb e.symm)]
      exact h t q hq
theorem Sub.drop {e : EC} {ρ : Env} (h : Sub e ρ) (ts : List Nat) : Sub (.drop ts e) (dropA ts ρ) := by
  intro t q hq
  simp only [EC.get] at hq
  rw [getA_dropA, has_contains]
  cases hb : has t ts with
  | true => rw [hb] at hq; cases hq
  | false => rw [hb] at hq; simpa using h t q hq
def ecFrom (k : Nat) : List PV → EC
  | [] => .nil
  | p :: r => .put k p (ecFrom (k + 1) r)
theorem sub_from : ∀ (k : Nat) (args : List PV), Sub (ecFrom k args) (envFrom k args)
  | k, [], t, p, h => by cases h
  | k, a :: r, t, p, h => by
    simp only [ecFrom, EC.get] at h
    simp only [envFrom, getA]
    cases hb : Nat.beq t k with
    | true =>
      rw [hb] at h
      rw [if_pos (Nat.eq_of_beq_eq_true hb).symm]
      exact h
    | false =>
      rw [hb] at h
      rw [if_neg (fun e => Nat.ne_of_beq_eq_false hb e.symm)]
      exact sub_from (k + 1) r t p h

def Opd.get (ρ : EC) : Opd → Option PV
  | .t n => ρ.get n
  | .c p => some p
theorem Opd.ev_of {ρ : EC} {r0 : Env} (hs : Sub ρ r0) {x : Opd} {p : PV} (h : x.get ρ = some p) : x.ev r0 = p := by
  cases x with
  | t n => simp only [Opd.get] at h; simp [Opd.ev, Env.at, hs _ _ h]
  | c q => injection h
def gets (ρ : EC) : List Opd → Option (List PV)
  | [] => some []
  | x :: r => match x.get ρ with
    | some p => match gets ρ r with
      | some ps => some (p :: ps)
      | none => none
    | none => none
theorem gets_ev {ρ : EC} {r0 : Env} (hs : Sub ρ r0) : ∀ {xs : List Opd} {ps : List PV}, gets ρ xs = some ps → xs.map (Opd.ev r0) = ps
  | [], ps, h => by injection h
  | x :: r, ps, h => by
    simp only [gets] at h
    split at h
    · rename_i p hp
      split at h
      · rename_i qs hq
        injection h with h
        subst h
        simp [Opd.ev_of hs hp, gets_ev hs hq]
      · cases h
    · cases h
def getOpt (ρ : EC) : Option Opd → Option (Option PV)
  | none => some none
  | some x => match x.get ρ with
    | some p => some (some p)
    | none => none
theorem getOpt_ev {ρ : EC} {r0 : Env} (hs : Sub ρ r0) {x : Option Opd} {p : Option PV} (h : getOpt ρ x = some p) : x.map (Opd.ev r0) = p := by
  cases x with
  | none => injection h
  | some x =>
    simp only [getOpt] at h
    split at h
    · rename_i q hq
      injection h with h
      subst h
      simp [Opd.ev_of hs hq]
    · cases h
def get1 (ρ : EC) (x : Opd) (f : PV → Option PV) : Option PV :=
  match x.get ρ with
  | some p => f p
  | none => none
def get2 (ρ : EC) (x y : Opd) (f : PV → PV → Option PV) : Option PV :=
  match x.get ρ with
  | some p => match y.get ρ with
    | some q => f p q
    | none => none
  | none => none
theorem get1_ev {ρ : EC} {r0 : Env} (hs : Sub ρ r0) {x : Opd} {f : PV → Option PV} {r : PV} (h : get1 ρ x f = some r) : f (x.ev r0) = some r := by
  unfold get1 at h
  split at h
  · rename_i p hp; rw [Opd.ev_of hs hp]; exact h
  · cases h
theorem get2_ev {ρ : EC} {r0 : Env} (hs : Sub ρ r0) {x y : Opd} {f : PV → PV → Option PV} {r : PV} (h : get2 ρ x y f = some r) : f (x.ev r0) (y.ev r0) = some r := by
  unfold get2 at h
  split at h
  · rename_i p hp
    split at h
    · rename_i q hq; rw [Opd.ev_of hs hp, Opd.ev_of hs hq]; exact h
    · cases h
  · cases h
def intNe (neq : Bool) : Option Bool → Option PV
  | some b => some (.bool (match neq with | true => !b | false => b))
  | none => none
def natPV : Option Nat → Option PV
  | some n => some (.int .i64 n)
  | none => none
def partsOf (ρ : EC) : List (Nat × Nat × Opd) → Option (List (Nat × Nat × PV))
  | [] => some []
  | (a, b, x) :: r => match x.get ρ with
    | some p => match partsOf ρ r with
      | some ps => some ((a, b, p) :: ps)
      | none => none
    | none => none
theorem partsOf_ev {ρ : EC} {r0 : Env} (hs : Sub ρ r0) : ∀ {xs : List (Nat × Nat × Opd)} {ps : List (Nat × Nat × PV)}, partsOf ρ xs = some ps → xs.map (fun p => (p.1, p.2.1, Opd.ev r0 p.2.2)) = ps
  | [], ps, h => by injection h
  | (a, b, x) :: r, ps, h => by
    simp only [partsOf] at h
    split at h
    · rename_i p hp
      split at h
      · rename_i qs hq
        injection h with h
        subst h
        simp [Opd.ev_of hs hp, partsOf_ev hs hq]
      · cases h
    · cases h
def elsOf (ρ : EC) : List (Nat × Opd) → Option (List (Nat × PV))
  | [] => some []
  | (a, x) :: r => match x.get ρ with
    | some p => match elsOf ρ r with
      | some ps => some ((a, p) :: ps)
      | none => none
    | none => none
theorem elsOf_ev {ρ : EC} {r0 : Env} (hs : Sub ρ r0) : ∀ {xs : List (Nat × Opd)} {ps : List (Nat × PV)}, elsOf ρ xs = some ps → xs.map (fun p => (p.1, Opd.ev r0 p.2)) = ps
  | [], ps, h => by injection h
  | (a, x) :: r, ps, h => by
    simp only [elsOf] at h
    split at h
    · rename_i p hp
      split at h
      · rename_i qs hq
        injection h with h
        subst h
        simp [Opd.ev_of hs hp, elsOf_ev hs hq]
      · cases h
    · cases h
def indexed (f : Int → PV → Option PV) : PV → PV → Option PV
  | p, .int _ i => f i p
  | _, _ => none

/-- What an instruction answers, what it looks at reckoned first. -/
def stepQ (look : Nat → Option Tok) (ρ : EC) : PI → Option PV
  | .move x => x.get ρ
  | .pick c a b => match c.get ρ with
    | some (.bool true) => a.get ρ
    | some (.bool false) => b.get ρ
    | _ => none
  | .load n agg a => get1 ρ a (loadAt look n agg)
  | .build zero ps => match partsOf ρ ps with
    | some qs => match fillParts zero qs with
      | some cs => some (.agg cs)
      | none => none
    | none => none
  | .buildSl sz zero ps => match allOf sz zero with
    | true => match elsOf ρ ps with
      | some qs => match fillElems sz zero qs with
        | some es => some (.sl es true)
        | none => none
      | none => none
    | false => none
  | .fieldAddr x d => get1 ρ x (fieldAddr? d)
  | .field x off n agg => get1 ρ x (field? off n agg)
  | .indexA x ix len sz => get2 ρ x ix (indexed (indexA? len sz))
  | .indexS x ix sz => get2 ρ x ix (indexed (indexS? look sz))
  | .indexStr x ix => get2 ρ x ix (indexed indexStr?)
  | .sliceStr x lo hi => match getOpt ρ lo with
    | some l => match getOpt ρ hi with
      | some h => get1 ρ x (sliceStr? l h)
      | none => none
    | none => none
  | .sliceSl x sz lo hi mx => match getOpt ρ lo with
    | some l => match getOpt ρ hi with
      | some h => match getOpt ρ mx with
        | some m => get1 ρ x (sliceSl? look sz l h m)
        | none => none
      | none => none
    | none => none
  | .sliceArr x len sz lo hi mx => match getOpt ρ lo with
    | some l => match getOpt ρ hi with
      | some h => match getOpt ρ mx with
        | some m => get1 ρ x (sliceArr? len sz l h m)
        | none => none
      | none => none
    | none => none
  | .conv k x => get1 ρ x (conv? k)
  | .toBytes x => get1 ρ x fun p => match p with
    | .str s => some (.sl (byteCells s) false)
    | _ => none
  | .textId x => get1 ρ x fun p => match p with
    | .str s => some (.str s)
    | _ => none
  | .toStr x => get1 ρ x fun p => (elemsOf look p).bind fun es => (bytesOf? es).map .str
  | .neg x => get1 ρ x neg?
  | .not x => get1 ρ x not?
  | .bin op x y => get2 ρ x y (binOp? op)
  | .eqNil neq kind x => get1 ρ x fun p => intNe neq (isNil kind p)
  | .eqBool neq x y => get2 ρ x y fun p q => intNe neq (eqBool? p q)
  | .eqAgg neq x y => get2 ρ x y fun p q => intNe neq (eqAgg? p q)
  | .extract x i => get1 ρ x (extract? i)
  | .mkIface ty x => get1 ρ x fun p => some (.iface ty p)
  | .mkFunc f caps => match gets ρ caps with
    | some cs => some (.func f cs)
    | none => none
  | .nilCheck x => get1 ρ x nilCheck?
  | .len txt x => get1 ρ x fun p => match isStr p == txt with
    | true => natPV (lenOf p)
    | false => none
  | .cap x => get1 ρ x fun p => natPV (cap? p)
  | .minmax mx xs => match gets ρ xs with
    | some ps => minmax? mx ps
    | none => none
  | _ => none
theorem indexed_ev {f : Int → PV → Option PV} {p q r : PV} (h : indexed f p q = some r) : (int? q).bind (fun i => f i p) = some r := by
  unfold indexed at h
  split at h
  · exact h
  · cases h
theorem intNe_ev {neq : Bool} {o : Option Bool} {r : PV} (h : intNe neq o = some r) : o.map (fun b => PV.bool (if neq then !b else b)) = some r := by
  cases o with
  | none => cases h
  | some b => cases neq <;> exact h
theorem natPV_ev {o : Option Nat} {r : PV} (h : natPV o = some r) : o.map (fun (n : Nat) => PV.int .i64 (n : Int)) = some r := by
  cases o with
  | none => cases h
  | some b => exact h
theorem stepQ_quiet {look : Nat → Option Tok} {ρ : EC} {r0 : Env} (hs : Sub ρ r0) {op : PI} {p : PV} (h : stepQ look ρ op = some p) : quiet look (Opd.ev r0) op = some p := by
  cases op with
  | move x => simp only [quiet]; rw [Opd.ev_of hs h]
  | pick c a b =>
    simp only [stepQ] at h
    split at h
    · rename_i hc; simp only [quiet, Opd.ev_of hs hc, pick?, Opd.ev_of hs h, if_true]
    · rename_i hc; simp only [quiet, Opd.ev_of hs hc, pick?, Opd.ev_of hs h]; rfl
    · cases h
  | build zero ps =>
    simp only [stepQ] at h
    split at h
    · rename_i qs hq
      split at h
      · rename_i cs hc
        simp only [quiet, partsOf_ev hs hq, hc, Option.map_some]
        exact h
      · cases h
    · cases h
  | buildSl sz zero ps =>
    simp only [stepQ] at h
    split at h
    · rename_i ha
      split at h
      · rename_i qs hq
        split at h
        · rename_i cs hc
          simp only [quiet, elsOf_ev hs hq, hc, ha, if_true, Option.map_some]
          exact h
        · cases h
      · cases h
    · cases h
  | indexA x ix len sz => exact indexed_ev (get2_ev hs h)
  | indexS x ix sz => exact indexed_ev (get2_ev hs h)
  | indexStr x ix => exact indexed_ev (get2_ev hs h)
  | sliceStr x lo hi =>
    simp only [stepQ] at h
    split at h
    · rename_i a ha
      split at h
      · rename_i b hb
        simp only [quiet, getOpt_ev hs ha, getOpt_ev hs hb]
        exact get1_ev hs h
      · cases h
    · cases h
  | sliceSl x sz lo hi mx =>
    simp only [stepQ] at h
    split at h
    · rename_i a ha
      split at h
      · rename_i b hb
        split at h
        · rename_i c hc
          simp only [quiet, getOpt_ev hs ha, getOpt_ev hs hb, getOpt_ev hs hc]
          exact get1_ev hs h
        · cases h
      · cases h
    · cases h
  | sliceArr x len sz lo hi mx =>
    simp only [stepQ] at h
    split at h
    · rename_i a ha
      split at h
      · rename_i b hb
        split at h
        · rename_i c hc
          simp only [quiet, getOpt_ev hs ha, getOpt_ev hs hb, getOpt_ev hs hc]
          exact get1_ev hs h
        · cases h
      · cases h
    · cases h
  | toBytes x =>
    have h := get1_ev hs h
    simp only [quiet]
    exact h
  | textId x =>
    have h := get1_ev hs h
    simp only [quiet]
    exact h
  | eqNil neq kind x => exact intNe_ev (get1_ev hs h)
  | eqBool neq x y => exact intNe_ev (get2_ev hs h)
  | eqAgg neq x y => exact intNe_ev (get2_ev hs h)
  | mkFunc f caps =>
    simp only [stepQ] at h
    split at h
    · rename_i cs hc
      simp only [quiet, gets_ev hs hc]
      exact h
    · cases h
  | len txt x =>
    have h := get1_ev hs h
    simp only [quiet]
    cases he : isStr (x.ev r0) == txt with
    | true =>
      simp only [he] at h
      rw [if_pos rfl]
      exact natPV_ev h
    | false =>
      simp only [he] at h
      cases h
  | cap x => exact natPV_ev (get1_ev hs h)
  | minmax mx xs =>
    simp only [stepQ] at h
    split at h
    · rename_i cs hc
      simp only [quiet, gets_ev hs hc]
      exact h
    · cases h
  | load n agg a => exact get1_ev hs h
  | fieldAddr x d => exact get1_ev hs h
  | field x off n agg => exact get1_ev hs h
  | conv k x => exact get1_ev hs h
  | toStr x => exact get1_ev hs h
  | neg x => exact get1_ev hs h
  | not x => exact get1_ev hs h
  | bin op x y => exact get2_ev hs h
  | extract x i => exact get1_ev hs h
  | mkIface ty x => exact get1_ev hs h
  | nilCheck x => exact get1_ev hs h
  | store n a x => cases h
  | alloc cells => cases h
  | box x => cases h
  | makeSl sz zero bytes len cap => cases h
  | append sz bytes zero s x => cases h
  | copy sz d s => cases h
  | call f args => cases h

section
variable {T : Tb} {Q : Post} {k : List Fr} {ρ : EC} {st : St} {l : List POp} {kill : List Nat}
/-- The same, by what is known of the temporaries. -/
def V (T : Tb) (Q : Post) (k : List Fr) (x : EX) (e : EC) (st : St) : Prop := ∀ ρ, Sub e ρ → W T Q k x ρ st
def VO (T : Tb) (Q : Post) (l : List POp) (kill : List Nat) (k : List Fr) (e : EC) (st : St) : Prop := ∀ ρ, Sub e ρ → O T Q l kill k ρ st
def VD (T : Tb) (Q : Post) (l : List POp) (kill : List Nat) (k : List Fr) (e : EC) (st : St) : Prop := ∀ ρ, Sub e ρ → D T Q l kill k ρ st

theorem V_less {x : EX} {e : EC} (e' : EC) (he : ∀ t p, e'.get t = some p → e.get t = some p) (h : V T Q k x e' st) : V T Q k x e st := fun r hr => h r fun t p hp => hr t p (he t p hp)
theorem less_nil {e : EC} : ∀ t p, EC.get t .nil = some p → e.get t = some p := fun t p h => by cases h
theorem less_put {e e' : EC} {u : Nat} {q : PV} (hu : e.get u = some q) (he : ∀ t p, e'.get t = some p → e.get t = some p) : ∀ t p, (EC.put u q e').get t = some p → e.get t = some p := by
  intro t p h
  simp only [EC.get] at h
  cases hb : Nat.beq t u with
  | true =>
    rw [hb] at h
    injection h with h
    subst h
    rw [Nat.eq_of_beq_eq_true hb]
    exact hu
  | false => rw [hb] at h; exact he t p h

theorem O_nil' (h : V T Q k .normal (.drop kill ρ) st) : VO T Q [] kill k ρ st := fun r hr => O_nil (h _ (hr.drop kill))
theorem D_nil' (h : V T Q k .normal (.drop kill ρ) st) : VD T Q [] kill k ρ st := fun r hr => D_nil (h _ (hr.drop kill))
theorem O_step {d : Option Nat} {op : PI} {p : PV} (hq : stepQ st.get ρ op = some p) (h : VO T Q l kill k (ρ.sets d p) st) : VO T Q (⟨d, none, op⟩ :: l) kill k ρ st := fun r hr => O_q (stepQ_quiet hr hq) (h _ (hr.sets d p))
theorem D_step {d : Option Nat} {op : PI} {p : PV} (hq : stepQ st.get ρ op = some p) (h : VD T Q l kill k (ρ.sets d p) st) : VD T Q (⟨d, none, op⟩ :: l) kill k ρ st := fun r hr => D_q (stepQ_quiet hr hq) (h _ (hr.sets d p))

theorem putA_same {α : Type} {t : Nat} {x : α} : ∀ {ρ : List (Nat × α)}, getA t ρ = some x → putA t x ρ = ρ
  | [], h => by cases h
  | (j, v) :: r, h => by
    simp only [getA] at h
    simp only [putA]
    split at h
    · rename_i e; injection h with h; subst h e; rw [if_pos rfl]
    · rename_i e; rw [if_neg e, putA_same h]
theorem sub_same {r : Env} (hr : Sub ρ r) {t : Nat} {p : PV} (h : getA t r = some p) : Sub (.put t p ρ) r := by
  have := hr.sets (some t) p
  rwa [show Env.put r (some t) p = r from putA_same h] at this
theorem O_gS {d : Option Nat} {op : PI} {t : Nat} {want b : Bool} (hg : ρ.get t = some (.bool b)) (h1 : b = want → VO T Q (⟨d, none, op⟩ :: l) kill k (.put t (.bool want) ρ) st) (h2 : b = !want → VO T Q l kill k (EC.sets (.put t (.bool (!want)) ρ) d (.tuple [])) st) : VO T Q (⟨d, some (t, want), op⟩ :: l) kill k ρ st := by
  intro r hr
  have hg' := hr _ _ hg
  refine O_g hg' (fun e => ?_) (fun e => ?_)
  · exact h1 e r (sub_same hr (by rw [hg', e]))
  · have e' : b = !want := by cases b <;> cases want <;> simp_all
    exact h2 e' _ ((sub_same hr (by rw [hg', e'])).sets d _)
theorem D_gS {d : Option Nat} {op : PI} {t : Nat} {want b : Bool} (hg : ρ.get t = some (.bool b)) (h1 : b = want → VD T Q (⟨d, none, op⟩ :: l) kill k (.put t (.bool want) ρ) st) (h2 : b = !want → VD T Q l kill k (EC.sets (.put t (.bool (!want)) ρ) d (.tuple [])) st) : VD T Q (⟨d, some (t, want), op⟩ :: l) kill k ρ st := by
  intro r hr
  have hg' := hr _ _ hg
  refine D_g hg' (fun e => ?_) (fun e => ?_)
  · exact h1 e r (sub_same hr (by rw [hg', e]))
  · have e' : b = !want := by cases b <;> cases want <;> simp_all
    exact h2 e' _ ((sub_same hr (by rw [hg', e'])).sets d _)
theorem O_gT' {d : Option Nat} {op : PI} {t : Nat} {want : Bool} (hg : ρ.get t = some (.bool want)) (h1 : VO T Q (⟨d, none, op⟩ :: l) kill k ρ st) : VO T Q (⟨d, some (t, want), op⟩ :: l) kill k ρ st := fun r hr => O_gT (hr _ _ hg) (h1 r hr)
theorem O_gF' {d : Option Nat} {op : PI} {t : Nat} {want b : Bool} (hg : ρ.get t = some (.bool b)) (hb : b = !want) (h2 : VO T Q l kill k (ρ.sets d (.tuple [])) st) : VO T Q (⟨d, some (t, want), op⟩ :: l) kill k ρ st := fun r hr => O_gF (hr _ _ hg) (by subst hb; cases want <;> simp) (h2 _ (hr.sets d _))
theorem O_gU' {d : Option Nat} {op : PI} {t : Nat} {want : Bool} (hg : ρ.get t = some (.tuple [])) (h2 : VO T Q l kill k (ρ.sets d (.tuple [])) st) : VO T Q (⟨d, some (t, want), op⟩ :: l) kill k ρ st := fun r hr => O_gU (hr _ _ hg) (h2 _ (hr.sets d _))
theorem D_gT' {d : Option Nat} {op : PI} {t : Nat} {want : Bool} (hg : ρ.get t = some (.bool want)) (h1 : VD T Q (⟨d, none, op⟩ :: l) kill k ρ st) : VD T Q (⟨d, some (t, want), op⟩ :: l) kill k ρ st := fun r hr => D_g (hr _ _ hg) (fun _ => h1 r hr) (fun h => (h rfl).elim)
theorem D_gF' {d : Option Nat} {op : PI} {t : Nat} {want b : Bool} (hg : ρ.get t = some (.bool b)) (hb : b = !want) (h2 : VD T Q l kill k (ρ.sets d (.tuple [])) st) : VD T Q (⟨d, some (t, want), op⟩ :: l) kill k ρ st := fun r hr => D_g (hr _ _ hg) (fun h => by subst hb; cases want <;> simp at h) (fun _ => h2 _ (hr.sets d _))
theorem D_gU' {d : Option Nat} {op : PI} {t : Nat} {want : Bool} (hg : ρ.get t = some (.tuple [])) (h2 : VD T Q l kill k (ρ.sets d (.tuple [])) st) : VD T Q (⟨d, some (t, want), op⟩ :: l) kill k ρ st := fun r hr => D_gU (hr _ _ hg) (h2 _ (hr.sets d _))

/-- What makes or changes memory of one's own, what it looks at reckoned first. -/
def stepL (st : St) (ρ : EC) : PI → Option (PV × St)
  | .store n a x => match a.get ρ with
    | some p => match x.get ρ with
      | some q => if q.cells.all PV.one = true ∧ q.cells.length = n ∧ 0 < n then (storeAt st p q).map fun st => (.tuple [], st) else none
      | none => none
    | none => none
  | .alloc cells => some (.ptr st.next 0, st.new (.var cells))
  | .box x => match x.get ρ with
    | some p => match p.isJunk with
      | false => some (.ptr st.next 0, st.new (.var p.cells))
      | true => none
    | none => none
  | .buildSl sz zero ps => match allOf sz zero with
    | true => match elsOf ρ ps with
      | some qs => match fillElems sz zero qs with
        | some es => some (.osl st.next 0 0 es.length false, st.new (.row 0 sz es true))
        | none => none
      | none => none
    | false => none
  | .makeSl sz zero bytes len cap => match len.get ρ with
    | some (.int _ l) => match cap.get ρ with
      | some (.int _ c) => if zero.length = sz ∧ 0 ≤ l ∧ l ≤ c ∧ c * bytes ≤ roomLen then
        some (.osl st.next 0 0 l.toNat false, st.new (.row 0 sz (List.replicate l.toNat zero) true)) else none
      | _ => none
    | _ => none
  | .append sz bytes _ s x => match s.get ρ with
    | some p => match x.get ρ with
      | some q => (srcOf st q).bind fun src => if okEls sz src = true ∧ 0 < sz ∧ 0 < bytes then appendTo st sz bytes p src else none
      | none => none
    | none => none
  | .copy sz d x => match d.get ρ with
    | some p => match x.get ρ with
      | some q => (srcOf st q).bind fun src => if okEls sz src = true ∧ 0 < sz then copyTo st sz p src else none
      | none => none
    | none => none
  | .toBytes x => match x.get ρ with
    | some (.str s) => some (.osl st.next 0 0 s.length false, st.new (.row 0 1 (byteCells s) true))
    | _ => none
  | _ => none
theorem stepL_loud {r0 : Env} (hs : Sub ρ r0) {op : PI} {r : PV × St} (h : stepL st ρ op = some r) : loud st (Opd.ev r0) op = some r := by
  cases op with
  | store n a x =>
    simp only [stepL] at h
    split at h
    · rename_i p hp
      split at h
      · rename_i q hq
        simp only [loud, Opd.ev_of hs hp, Opd.ev_of hs hq]; exact h
      · cases h
    · cases h
  | alloc cells => exact h
  | box x =>
    simp only [stepL] at h
    split at h
    · rename_i p hp
      split at h
      · rename_i hj
        simp only [loud, Opd.ev_of hs hp, hj, if_true]; exact h
      · cases h
    · cases h
  | buildSl sz zero ps =>
    simp only [stepL] at h
    split at h
    · rename_i ha
      split at h
      · rename_i qs hq
        split at h
        · rename_i cs hc
          simp only [loud, elsOf_ev hs hq, hc, ha, if_true, Option.map_some]
          exact h
        · cases h
      · cases h
    · cases h
  | makeSl sz zero bytes len cap =>
    simp only [stepL] at h
    split at h
    · rename_i _ _ hp
      split at h
      · rename_i _ _ hq
        simp only [loud, Opd.ev_of hs hp, Opd.ev_of hs hq]; exact h
      · cases h
    · cases h
  | append sz bytes zero s x =>
    simp only [stepL] at h
    split at h
    · rename_i p hp
      split at h
      · rename_i q hq
        simp only [loud, Opd.ev_of hs hp, Opd.ev_of hs hq]; exact h
      · cases h
    · cases h
  | copy sz d x =>
    simp only [stepL] at h
    split at h
    · rename_i p hp
      split at h
      · rename_i q hq
        simp only [loud, Opd.ev_of hs hp, Opd.ev_of hs hq]; exact h
      · cases h
    · cases h
  | toBytes x =>
    simp only [stepL] at h
    split at h
    · rename_i s hp
      simp only [loud, Opd.ev_of hs hp]; exact h
    · cases h
  | _ => cases h
theorem O_stepL {d : Option Nat} {op : PI} {p : PV} {st' : St} (hq : stepL st ρ op = some (p, st')) (h : VO T Q l kill k (ρ.sets d p) st') : VO T Q (⟨d, none, op⟩ :: l) kill k ρ st := fun r hr => O_l (stepL_loud hr hq) (h _ (hr.sets d p))

/-- What needs no look at anything: the next that does. -/
def adv : Nat → List Fr → EX → List Fr × EX
  | 0, k, x => (k, x)
  | n + 1, k, x => match k with
    | [] => ([], x)
    | .block id :: k => match x with
      | .normal => adv n k .normal
      | .ret => adv n k .ret
      | .exit i => match Nat.beq i id with
        | true => adv n k .normal
        | false => adv n k (.exit i)
    | .code c :: k => match x with
      | .ret => adv n k .ret
      | .exit i => adv n k (.exit i)
      | .normal => match c with
        | .skip => adv n k .normal
        | .seq a b => adv n (.code a :: .code b :: k) .normal
        | .block id c => adv n (.code c :: .block id :: k) .normal
        | .exit i => adv n k (.exit i)
        | .ret => adv n k .ret
        | .ops l kill => (.code (.ops l kill) :: k, .normal)
        | .drawn l kill => (.code (.drawn l kill) :: k, .normal)
        | .cond c a b => (.code (.cond c a b) :: k, .normal)
        | .loop c => (.code (.loop c) :: k, .normal)
theorem W_adv' : ∀ (n : Nat) (k : List Fr) (x : EX), ∀ {ρ : Env}, W T Q (adv n k x).1 (adv n k x).2 ρ st → W T Q k x ρ st
  | 0, k, x, _, h => h
  | n + 1, [], x, _, h => h
  | n + 1, .block id :: k, .normal, _, h => W_blockN (W_adv' n k .normal h)
  | n + 1, .block id :: k, .ret, _, h => W_blockR (W_adv' n k .ret h)
  | n + 1, .block id :: k, .exit i, _, h => by
    simp only [adv] at h
    cases hb : Nat.beq i id with
    | true =>
      rw [hb] at h
      have := Nat.eq_of_beq_eq_true hb
      subst this
      exact W_blockE (W_adv' n k _ h)
    | false =>
      rw [hb] at h
      exact W_blockO (Nat.ne_of_beq_eq_false hb) (W_adv' n k _ h)
  | n + 1, .code c :: k, .ret, _, h => W_adv' n k .ret h
  | n + 1, .code c :: k, .exit i, _, h => W_adv' n k (.exit i) h
  | n + 1, .code c :: k, .normal, _, h => by
    cases c with
    | skip => exact W_skip (W_adv' n k _ h)
    | seq a b => exact W_seq (W_adv' n _ _ h)
    | block id c => exact W_block (W_adv' n _ _ h)
    | exit i => exact W_exit (W_adv' n _ _ h)
    | ret => exact W_ret (W_adv' n _ _ h)
    | ops l kill => exact h
    | drawn l kill => exact h
    | cond c a b => exact h
    | loop c => exact h
/-- On to the next region. -/
theorem V_adv {x : EX} {k' : List Fr} {x' : EX} (ha : adv 200 k x = (k', x')) (h : V T Q k' x' ρ st) : V T Q k x ρ st := fun r hr => W_adv' 200 k x (by rw [ha]; exact h r hr)
theorem V_O {x : EX} {k' : List Fr} (ha : adv 200 k x = (.code (.ops l kill) :: k', .normal)) (h : VO T Q l kill k' ρ st) : V T Q k x ρ st := V_adv ha fun r hr => W_ops (h r hr)
theorem V_D {x : EX} {k' : List Fr} (ha : adv 200 k x = (.code (.drawn l kill) :: k', .normal)) (h : VD T Q l kill k' ρ st) : V T Q k x ρ st := V_adv ha fun r hr => W_drawn (h r hr)
theorem V_cT {x : EX} {k' : List Fr} {c : Opd} {a b : PC} (ha : adv 200 k x = (.code (.cond c a b) :: k', .normal)) (hc : c.get ρ = some (.bool true)) (h1 : V T Q (.code a :: k') .normal ρ st) : V T Q k x ρ st := V_adv ha fun r hr => W_cond (t := true) (Opd.ev_of hr hc) (h1 r hr)
theorem V_cF {x : EX} {k' : List Fr} {c : Opd} {a b : PC} (ha : adv 200 k x = (.code (.cond c a b) :: k', .normal)) (hc : c.get ρ = some (.bool false)) (h1 : V T Q (.code b :: k') .normal ρ st) : V T Q k x ρ st := V_adv ha fun r hr => W_cond (t := false) (Opd.ev_of hr hc) (h1 r hr)
theorem V_cB {x : EX} {k' : List Fr} {c : Opd} {a b : PC} {t : Bool} (ha : adv 200 k x = (.code (.cond c a b) :: k', .normal)) (hc : c.get ρ = some (.bool t)) (h1 : t = true → V T Q (.code a :: k') .normal ρ st) (h2 : t = false → V T Q (.code b :: k') .normal ρ st) : V T Q k x ρ st := by
  cases t with
  | true => exact V_cT ha hc (h1 rfl)
  | false => exact V_cF ha hc (h2 rfl)
theorem V_end {x x' : EX} (ha : adv 200 k x = ([], x')) (h : V T Q [] x' ρ st) : V T Q k x ρ st := V_adv ha h
theorem V_loop {c : PC} {k' : List Fr} {x : EX} (ha : adv 200 k x = (.code (.loop c) :: k', .normal)) (h : V T Q (.code (.loop c) :: k') .normal ρ st) : V T Q k x ρ st := V_adv ha h
theorem V_unroll {c : PC} (h : V T Q (.code c :: .code (.loop c) :: k) .normal ρ st) : V T Q (.code (.loop c) :: k) .normal ρ st := fun r hr => W_loop (h r hr)
/-- A state with less in it. -/
theorem V_weak {c : PC} {st' : St} {e' : EC} (hw : ∀ r, Sub ρ r → ∃ r', Weak r st r' st' ∧ Sub e' r') (h : V T Q (.code c :: k) .normal e' st') : V T Q (.code c :: k) .normal ρ st := fun r hr => by
  obtain ⟨r', h1, h2⟩ := hw r hr
  exact W_weak h1 (h r' h2)
theorem O_callP {d : Option Nat} {f : Opd} {xs : List Opd} {g : Nat} {caps vals args : List PV} {r : PV} (hf : f.get ρ = some (.func g caps)) (hx : gets ρ xs = some vals) (hv : ViewL false st.get (vals ++ caps) args) (hc : T.R (.call g args r)) (h : VO T Q l kill k (ρ.sets d r) st) : VO T Q (⟨d, none, .call f xs⟩ :: l) kill k ρ st :=
  fun e he => O_call (Opd.ev_of he hf) (by rw [gets_ev he hx]; exact hv) hc (h _ (he.sets d r))
theorem O_callSP {d : Option Nat} {f : Opd} {xs : List Opd} {g : Nat} {caps vals args : List PV} {r : PV} (hf : f.get ρ = some (.func g caps)) (hx : gets ρ xs = some vals) (hv : ViewL true st.get (vals ++ caps) args) (hr : scalarR r = true) (hc : T.R (.call g args r)) (h : VO T Q l kill k (ρ.sets d r) st) : VO T Q (⟨d, none, .call f xs⟩ :: l) kill k ρ st :=
  fun e he => O_callS (Opd.ev_of he hf) (by rw [gets_ev he hx]; exact hv) hr hc (h _ (he.sets d r))
theorem O_extP {d : Option Nat} {f : Opd} {xs : List Opd} {g : Nat} {caps vals args : List PV} {r : PV} (hf : f.get ρ = some (.func g caps)) (hx : gets ρ xs = some vals) (hv : ViewL true st.get (vals ++ caps) args) (hr : scalarR r = true) (hc : T.ext g args r) (h : VO T Q l kill k (ρ.sets d r) st) : VO T Q (⟨d, none, .call f xs⟩ :: l) kill k ρ st :=
  fun e he => O_ext (Opd.ev_of he hf) (by rw [gets_ev he hx]; exact hv) hr hc (h _ (he.sets d r))
theorem O_rawP {d : Option Nat} {f : Opd} {xs : List Opd} {g : Nat} {caps vals : List PV} (q τ : List (Nat × Tok)) {r : PV} {st1 : St} (hf : f.get ρ = some (.func g caps)) (hx : gets ρ xs = some vals) (hp : Parts st q τ) (hb : st1.base = st.next) (hc : T.R (.raw g (vals ++ caps) (partSt st τ) r st1)) (h : VO T Q l kill k (ρ.sets d r) (joinSt st q st1)) : VO T Q (⟨d, none, .call f xs⟩ :: l) kill k ρ st :=
  fun e he => O_raw (Opd.ev_of he hf) hp hb (by rw [gets_ev he hx]; exact hc) (h _ (he.sets d r))
theorem D_callP {d : Option Nat} {f : Opd} {xs : List Opd} {g : Nat} {caps vals args : List PV} {r : PV} (hf : f.get ρ = some (.func g caps)) (hx : gets ρ xs = some vals) (hv : ViewL false st.get (vals ++ caps) args) (hc : T.R (.call g args r)) (h : VD T Q l kill k (ρ.sets d r) st) : VD T Q (⟨d, none, .call f xs⟩ :: l) kill k ρ st :=
  fun e he => D_call (Opd.ev_of he hf) (by rw [gets_ev he hx]; exact hv) hc (h _ (he.sets d r))
theorem D_callSP {d : Option Nat} {f : Opd} {xs : List Opd} {g : Nat} {caps vals args : List PV} {r : PV} (hf : f.get ρ = some (.func g caps)) (hx : gets ρ xs = some vals) (hv : ViewL true st.get (vals ++ caps) args) (hr : scalarR r = true) (hc : T.R (.call g args r)) (h : VD T Q l kill k (ρ.sets d r) st) : VD T Q (⟨d, none, .call f xs⟩ :: l) kill k ρ st :=
  fun e he => D_callS (Opd.ev_of he hf) (by rw [gets_ev he hx]; exact hv) hr hc (h _ (he.sets d r))

/-! ### The end -/
def resG1 (ρ : EC) (look : Nat → Option Tok) : PRes → Option PV
  | .tmp t => ρ.get t
  | .cell a n agg => match ρ.get a with
    | some p => loadAt look n agg p
    | none => none
def resGs (ρ : EC) (look : Nat → Option Tok) : List PRes → Option (List PV)
  | [] => some []
  | r :: rs => match resG1 ρ look r with
    | some v => match resGs ρ look rs with
      | some vs => some (v :: vs)
      | none => none
    | none => none
def resG (ρ : EC) (look : Nat → Option Tok) (rs : List PRes) : Option PV :=
  match resGs ρ look rs with
  | some [v] => some v
  | some vs => some (.tuple vs)
  | none => none
theorem resG1_eq {r0 : Env} (hs : Sub ρ r0) {look : Nat → Option Tok} {r : PRes} {v : PV} (h : resG1 ρ look r = some v) : res1 r0 look r = some v := by
  cases r with
  | tmp t => simp only [resG1] at h; simp [res1, Env.at, hs _ _ h]
  | cell a n agg =>
    simp only [resG1] at h
    split at h
    · rename_i p hp
      simpa [res1, Env.at, hs _ _ hp] using h
    · cases h
theorem resGs_eq {r0 : Env} (hs : Sub ρ r0) {look : Nat → Option Tok} : ∀ {rs : List PRes} {vs : List PV}, resGs ρ look rs = some vs → mapO (res1 r0 look) rs = some vs
  | [], vs, h => h
  | r :: rs, vs, h => by
    simp only [resGs] at h
    split at h
    · rename_i v hv
      split at h
      · rename_i ws hw
        simp only [mapO, resG1_eq hs hv, resGs_eq hs hw]
        exact h
      · cases h
    · cases h
theorem resG_eq {r0 : Env} (hs : Sub ρ r0) {look : Nat → Option Tok} {rs : List PRes} {v : PV} (h : resG ρ look rs = some v) : resOf r0 look rs = some v := by
  unfold resG at h
  unfold resOf
  split at h
  · rename_i w hw; rw [resGs_eq hs hw]; exact h
  · rename_i vs hne hw
    rw [resGs_eq hs hw]
    match vs, hne with
    | [], _ => exact h
    | [v], hne => exact (hne v rfl).elim
    | _ :: _ :: _, _ => exact h
  · cases h
theorem V_fin {pf : PF} {Q : PV → Prop} {x : EX} {r0 r : PV} (ha : adv 200 k x = ([], .ret)) (hr : resG ρ st.get pf.results = some r0) (hv : View true st.get r0 r) (hq : Q r) : V T (Ends pf Q) k x ρ st := V_end ha fun e he => ⟨.inr rfl, r0, r, resG_eq he hr, hv, hq⟩
theorem V_finN {pf : PF} {Q : PV → Prop} {x : EX} {r0 r : PV} (ha : adv 200 k x = ([], .normal)) (hr : resG ρ st.get pf.results = some r0) (hv : View true st.get r0 r) (hq : Q r) : V T (Ends pf Q) k x ρ st := V_end ha fun e he => ⟨.inl rfl, r0, r, resG_eq he hr, hv, hq⟩
theorem V_finR {pf : PF} {r : PV} {x : EX} {st' : St} (ha : adv 200 k x = ([], .ret)) (hr : resG ρ st.get pf.results = some r) (hq : st = st') : V T (EndsR pf r st') k x ρ st := V_end ha fun e he => ⟨.inr rfl, resG_eq he hr, hq⟩
theorem V_finRN {pf : PF} {r : PV} {x : EX} {st' : St} (ha : adv 200 k x = ([], .normal)) (hr : resG ρ st.get pf.results = some r) (hq : st = st') : V T (EndsR pf r st') k x ρ st := V_end ha fun e he => ⟨.inl rfl, resG_eq he hr, hq⟩
theorem call_V {f : Nat} {pf : PF} {args : List PV} {r : PV} (hf : T.tbl f = some pf) (hn : Nat.ble args.length pf.ntmps = true) (h : V T (Ends pf (· = r)) [.code pf.body] .normal (ecFrom 0 args) emptySt) : T.R (.call f args r) := call_is hf (Nat.le_of_ble_eq_true hn) (h _ (sub_from 0 args))
theorem call_VQ {f : Nat} {pf : PF} {args : List PV} {Q : PV → Prop} (hf : T.tbl f = some pf) (hn : Nat.ble args.length pf.ntmps = true) (h : V T (Ends pf Q) [.code pf.body] .normal (ecFrom 0 args) emptySt) : ∃ r, T.R (.call f args r) ∧ Q r := call_of hf (Nat.le_of_ble_eq_true hn) (h _ (sub_from 0 args))
theorem raw_V {f : Nat} {pf : PF} {args : List PV} {r : PV} {st' : St} (hf : T.tbl f = some pf) (hn : Nat.ble args.length pf.ntmps = true) (h : V T (EndsR pf r st') [.code pf.body] .normal (ecFrom 0 args) st) : T.R (.raw f args st r st') := raw_is hf (Nat.le_of_ble_eq_true hn) (h _ (sub_from 0 args))
end

theorem pl_nil : ∀ c ∈ ([] : List PV), Pl c := fun c h => by cases h
theorem pl_cons {a : PV} {l : List PV} (ha : Pl a) (hl : ∀ c ∈ l, Pl c) : ∀ c ∈ a :: l, Pl c := fun c h => by
  rcases List.mem_cons.1 h with rfl | h
  · exact ha
  · exact hl c h
end Go.AM
