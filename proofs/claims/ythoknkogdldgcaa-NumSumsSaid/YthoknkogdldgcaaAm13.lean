/- AM13: append, copy, texts turned to bytes of one's own. -/
import Derived.Test.YthoknkogdldgcaaAm12
set_option linter.unusedVariables false
set_option linter.unusedSimpArgs false
namespace Go.AM
open Go.RowKit

section
variable {P : Program} {X : Cx} {st : St} {G : Gh} {w : World} {n : Nat} {ρ : Env} {a : Act}

/-- What stands behind the dots, as values. -/
def SrcRun (P : Program) (own : Nat → Prop) (G : Gh) (w : World) (v : Value) (src : List (List PV)) (sz : Nat) : Prop :=
  (Builtin.lenOf v).run P w = .ok src.length w ∧ ∀ m, m ≤ src.length → ∃ us : Array Value, (∀ w' : World, Below w.heap.size w w' → (Builtin.firstCells sz m v).run P w' = .ok us w') ∧ us.size = m * sz ∧ ∀ (j : Nat) (cs : List PV) (i : Nat) (c : PV), j < m → src[j]? = some cs → cs[i]? = some c → Rep G own w (us.getD (j * sz + i) undef) c
theorem src_slice (hI : Inv X st G w) {v : Value} {q : PV} (hr : Rep G (OwnF X st G) w v q) {src : List (List PV)} (he : elemsOf st.get q = some src) {sz : Nat} (hall : allOf sz src = true) : SrcRun P (OwnF X st G) G w v src sz := by
  obtain ⟨ad, cap, hv, hh⟩ := elems_rep hI hr he hall
  subst hv
  exact ⟨rfl, fun m hm => run_firstCells hall hh m hm⟩
theorem src_run (hI : Inv X st G w) {v : Value} {p : PV} (hr : Rep G (OwnF X st G) w v p) {src : List (List PV)} (hs : srcOf st p = some src) {sz : Nat} (hall : allOf sz src = true) : SrcRun P (OwnF X st G) G w v src sz := by
  unfold srcOf at hs
  split at hs
  · rename_i s
    injection hs with hs
    subst hs
    have hv := rep_str hr
    subst hv
    have hl : (byteCells s).length = s.length := by simp [byteCells]
    have hsz : (⟨s.toArray⟩ : ByteArray).size = s.length := by simp [ByteArray.size]
    refine ⟨by simp [Builtin.lenOf, hsz, hl], fun m hm => ?_⟩
    rw [hl] at hm
    have hex : ((⟨s.toArray⟩ : ByteArray).extract 0 m).data = (s.take m).toArray := by
      rw [ByteArray.data_extract]
      simp [List.extract_eq_take_drop]
    refine ⟨_, fun w' _ => rfl, ?_, fun j cs i c hj hcs hi => ?_⟩
    · rw [hex]
      rcases Nat.eq_zero_or_pos m with h0 | h0
      · subst h0; simp
      · have h1 : sz = 1 := by
          have h0s : 0 < (byteCells s).length := by omega
          have hb := List.getElem?_eq_getElem h0s
          have h2 := allOf_spec hall hb
          have h3 : ((byteCells s)[0]).length = 1 := by simp [byteCells]
          omega
        subst h1
        simp; omega
    · have h1 : sz = 1 := by
        have := allOf_spec hall hcs
        simp only [byteCells, List.getElem?_map] at hcs
        obtain ⟨q, _, rfl⟩ := Option.map_eq_some_iff.1 hcs
        simpa using this.symm
      subst h1
      simp only [byteCells, List.getElem?_map] at hcs
      obtain ⟨q, hq, rfl⟩ := Option.map_eq_some_iff.1 hcs
      have hi0 : i = 0 := by
        have := (List.getElem?_eq_some_iff.1 hi).1
        simp at this
        exact this
      subst hi0
      simp at hi
      subst hi
      have : ((((⟨s.toArray⟩ : ByteArray).extract 0 m).data.map fun b => Value.int .u8 b.toNat)).getD (j * 1 + 0) undef = .int .u8 q.toNat := by
        rw [hex, Array.getD_eq_getD_getElem?]
        simp [hj, hq]
      rw [this]
      exact .int _ _
  · exact src_slice hI hr hs hall

theorem flat_src {own : Nat → Prop} {us : Array Value} {src : List (List PV)} {sz : Nat} (hall : allOf sz src = true) (hs : us.size = src.length * sz)
    (h : ∀ (j : Nat) (cs : List PV) (i : Nat) (c : PV), j < src.length → src[j]? = some cs → cs[i]? = some c → Rep G own w (us.getD (j * sz + i) undef) c) : CellsRep G own w us src.flatten :=
  ⟨by rw [hs, (flatten_get hall).1], fun q p hq => cells_flat hall (by rw [hs]; exact Nat.le_refl _) (fun j i cs p hj hi => h j cs i p (List.getElem?_eq_some_iff.1 hj).1 hj hi) q p hq⟩

def sliceOrText : TypeDesc → Bool
  | .slice _ | .string => true
  | _ => false
/-- append: the parts of a run. -/
structure AppTy (P : Program) (t t' : TypeId) (e : TypeId) (d : TypeDesc) (i : TypeInfo) (z : Value) : Prop where
  ht : P.underlying t = some (.slice e)
  ht' : ∃ d', P.underlying t' = some d' ∧ sliceOrText d' = true
  he : tyOf P e = some (d, i)
  hz : ∀ w' : World, (zeroValue e).run P w' = .ok z w'
  hzs : z.cells.size = i.size
  hb : 0 < i.bytes

/-- There is room: it is written in place. -/
theorem run_append_in {t t' e : TypeId} {d : TypeDesc} {i : TypeInfo} {z : Value} (hT : AppTy P t t' e d i z) {base : Option Addr} {sLen sCap : Nat} {xv : Value} {m : Nat} {us : Array Value} (hlen : (Builtin.lenOf xv).run P w = .ok m w) (hus : (Builtin.firstCells i.size m xv).run P w = .ok us w) (hroom : sLen + m ≤ sCap) {w' : World}
    (hst : (match base with | some a => storeCells (a.add (sLen * i.size)) us.toList | none => pure ()).run P w = .ok () w') (ty : TypeId) :
    (Builtin.append_ #[t, t'] ty #[.slice base sLen sCap, xv]).run P w = .ok (.slice base (sLen + m) sCap) w' := by
  obtain ⟨d', hd', hk⟩ := hT.ht'
  have hint : (match d' with | .int _ => true | _ => false) = false := by cases d' <;> simp [sliceOrText] at hk <;> rfl
  unfold Builtin.append_
  simp only [List.getElem?_toArray, List.getElem?_cons_zero, List.getElem?_cons_succ, Sem.run_bind, run_underlying hT.ht, Result.andThen_ok, run_sizeOf hT.he]
  cases d' <;> simp [sliceOrText] at hk
  all_goals
    simp only [Sem.run_bind, run_underlying hd', Result.andThen_ok, Sem.run_pure, Bool.false_eq_true, if_false, hlen, Bool.not_false, if_true, hroom, hus]
    cases base with
    | none => simp only [Sem.run_pure, Result.ok.injEq, true_and] at hst; subst hst; rfl
    | some ad => simp only [Sem.run_bind, hst, Result.andThen_ok, Sem.run_pure]

/-- There is none: a new row. -/
theorem run_append_new {t t' e : TypeId} {d : TypeDesc} {i : TypeInfo} {z : Value} (hT : AppTy P t t' e d i z) {base : Option Addr} {sLen sCap : Nat} {xv : Value} {m : Nat} {us old : Array Value} (hlen : (Builtin.lenOf xv).run P w = .ok m w) (hus : ∀ w' : World, Below w.heap.size w w' → (Builtin.firstCells i.size m xv).run P w' = .ok us w') (hold : ∀ w' : World, Below w.heap.size w w' → (Builtin.firstCells i.size sLen (.slice base sLen sCap)).run P w' = .ok old w')
    (hroom : sCap < sLen + m) (hbig : (sLen + m) * i.bytes ≤ roomLen) (ty : TypeId) :
    ∃ cap w', sLen + m ≤ cap ∧ (Builtin.append_ #[t, t'] ty #[.slice base sLen sCap, xv]).run P w = .ok (.slice (some ⟨w.heap.size, 0, none⟩) (sLen + m) cap) w' ∧ Below w.heap.size w w' ∧ w.heap.size < w'.heap.size ∧
      w'.heap[w.heap.size]? = some (.cells (old ++ us ++ Builtin.zeroCells z.cells (cap - (sLen + m))) e (0, 0)) := by
  obtain ⟨d', hd', hk⟩ := hT.ht'
  have hsmall : sLen + m ≤ 140737488355328 := by
    have : (sLen + m) * 1 ≤ (sLen + m) * i.bytes := Nat.mul_le_mul_left _ hT.hb
    simp only [roomLen] at hbig
    omega
  have hfit := growslice_fits (need := sLen + m) (old := sCap) (bytes := i.bytes) hroom hbig
  have hd : Below w.heap.size w w.drew := (Below.refl _ _).drew
  refine ⟨grownCap w (sLen + m) sCap e, (w.drew).alloc (.cells (old ++ us ++ Builtin.zeroCells z.cells (grownCap w (sLen + m) sCap e - (sLen + m))) e), grownCap_ge _ _ _ _, ?_, hd.alloc (Nat.le_refl _) _, by simp, heap_alloc_new w.drew _⟩
  unfold Builtin.append_
  simp only [List.getElem?_toArray, List.getElem?_cons_zero, List.getElem?_cons_succ, Sem.run_bind, run_underlying hT.ht, Result.andThen_ok, run_sizeOf hT.he]
  have c1 : ¬ sLen + m ≤ sCap := by omega
  have c2 : ¬ (((sLen + m : Nat) : Int) > IntKind.i64.max) := by
    have : IntKind.i64.max = 9223372036854775807 := rfl
    rw [this]
    omega
  have c3 : ¬ Builtin.nextslicecap (sLen + m) sCap * i.bytes > 2 ^ 48 := by
    have : (2 : Nat) ^ 48 = 281474976710656 := by decide
    omega
  have hinfo : (P.info? e) = some i := (tyOf_spec hT.he).2
  have hchoose : (choose (.appendCap (sLen + m) sCap e)).run P w = .ok (grownCap w (sLen + m) sCap e) w.drew := by
    rw [run_choose]
    rfl
  have hu := hus w.drew hd
  have ho := hold w.drew hd
  cases d' <;> simp [sliceOrText] at hk
  all_goals
    simp only [Sem.run_bind, run_underlying hd', Result.andThen_ok, Sem.run_pure, Bool.false_eq_true, if_false, hlen, Bool.not_false, if_true, c1, typeInfo, run_program, hinfo, c2, false_and, c3, hchoose, run_askRoom, ho, hu, hT.hz, newRow, run_newObj]
    rfl
end
end Go.AM
