/- The abstract machine: AM8: what a slice holds; conversions; lengths; structs put together. · AM9: lengths, least and greatest, structs and rows put together. · AM10: operations that make or change memory of one's own: what lasts. · AM11: stores, new variables, rows. · AM12: rows that are made, appended to, copied into. · AM13: append, copy, texts turned to bytes of one's own. -/
import Derived.Test.YtbeaalkfakjoiaaDoorAmA
import Derived.Lib.ConvBytes
import Derived.Laws.BytesArg
import Derived.Laws.IdiomCopy
import Derived.Laws.AppendOwn
set_option linter.unusedSectionVars false
set_option linter.unusedVariables false
set_option linter.unusedSimpArgs false
namespace Go.AM
open Go.RowKit
variable [Gl]
section
variable {P : Program} {X : Cx} {st : St} {G : Gh} {w : World} {n : Nat} {ρ : Env} {a : Act}
theorem mul_lt_of {j len sz i : Nat} (hj : j < len) (hi : i < sz) : j * sz + i < len * sz := by
  have h1 : (j + 1) * sz ≤ len * sz := Nat.mul_le_mul_right _ hj
  rw [Nat.add_mul] at h1
  omega
theorem allOf_spec {sz : Nat} {es : List (List PV)} (h : allOf sz es = true) {j : Nat} {cs : List PV} (hj : es[j]? = some cs) : cs.length = sz := by
  have := (List.all_eq_true.1 h) cs (List.mem_of_getElem? hj)
  simpa using this
theorem elems_rep (hI : Inv X st G w) {v : Value} {p : PV} (hr : Rep G (OwnF X st G) w v p) {es : List (List PV)} (he : elemsOf st.get p = some es) {sz : Nat} (hall : allOf sz es = true) :
    ∃ ad cap, v = .slice ad es.length cap ∧ (es = [] ∨ ∃ b o, ad = some ⟨b, o, none⟩ ∧ ∀ (j : Nat) (cs : List PV), es[j]? = some cs → CellsAt G (OwnF X st G) w b (o + j * sz) cs) := by
  cases hr with
  | nilSl => injection he with he; subst he; exact ⟨none, 0, rfl, .inl rfl⟩
  | sl xs full b o cap sz' adr u hcap hfull hadr hsz hc hr' =>
    injection he with he
    subst he
    refine ⟨_, cap, rfl, ?_⟩
    by_cases h0 : xs = []
    · exact .inl h0
    have hpos : 0 < xs.length := List.length_pos_iff.2 h0
    refine .inr ⟨b, o, by rw [hadr (by omega)], fun j cs hj i c hi => ?_⟩
    have h1 := hsz _ _ hj
    have h2 := allOf_spec hall hj
    have : sz' = sz := by omega
    subst this
    exact ⟨_, (hc _ _ _ _ hj hi).1, hr' _ _ _ _ hj hi⟩
  | osl t g off len full L cap ad hG hcap hL hfull ha =>
    simp only [elemsOf] at he
    split at he
    · rename_i g' sz' es' lv hg
      split at he
      · rename_i hc
        obtain ⟨rfl, hlen⟩ := hc
        injection he with he
        have hel : es.length = len := by rw [← he]; simp; omega
        rw [← hel]
        refine ⟨some ad, cap, rfl, ?_⟩
        by_cases h0 : es = []
        · exact .inl h0
        · have hpos : 0 < len := by
            rw [← hel]
            exact List.length_pos_iff.2 h0
          have := ha (by omega)
          subst this
          obtain ⟨L', h1, h2, h3, h4, h5, h6⟩ := hI.toks t _ hg
          rw [h1] at hG
          injection hG with hG
          subst hG
          have hsz : sz' = sz := by
            obtain ⟨c0, hj⟩ : ∃ c0, es[0]? = some c0 := ⟨_, List.getElem?_eq_getElem (by omega)⟩
            have k1 := allOf_spec hall hj
            rw [← he, List.getElem?_take, if_pos hpos, List.getElem?_drop] at hj
            have k2 := (h5 _ _ hj).1
            omega
          subst hsz
          refine .inr ⟨L'.blk, L'.off + off * L'.sz, rfl, fun j cs hj => ?_⟩
          rw [← he, List.getElem?_take] at hj
          split at hj
          · rw [List.getElem?_drop] at hj
            have := (h5 _ _ hj).2
            rw [h2, Nat.add_assoc, ← Nat.add_mul]
            exact this
          · cases hj
      · cases he
    · cases he
  | vsl t off sz' len L cap ad hG hcap ha =>
    simp only [elemsOf] at he
    split at he
    · rename_i cs hg
      split at he
      · rename_i hc
        injection he with he
        have hel : es.length = len := by rw [← he]; simp
        rw [← hel]
        refine ⟨some ad, cap, rfl, ?_⟩
        by_cases h0 : es = []
        · exact .inl h0
        · have hpos : 0 < len := by
            rw [← hel]
            exact List.length_pos_iff.2 h0
          have := ha (by omega)
          subst this
          obtain ⟨L', h1, h2, h3⟩ := hI.toks t _ hg
          rw [h1] at hG
          injection hG with hG
          subst hG
          have hel2 : ∀ (j : Nat) (ds : List PV), es[j]? = some ds → j < len ∧ ds = (cs.drop (off + j * sz')).take sz' := by
            intro j ds hj
            rw [← he, List.getElem?_map] at hj
            obtain ⟨q, hq, rfl⟩ := Option.map_eq_some_iff.1 hj
            have := List.getElem?_eq_some_iff.1 hq
            obtain ⟨hlt, hq'⟩ := this
            simp at hlt hq'
            subst hq'
            exact ⟨hlt, rfl⟩
          have hsz : sz' = sz := by
            have hj : es[0]? = some es[0] := List.getElem?_eq_getElem (by omega)
            have k1 := allOf_spec hall hj
            have k2 := (hel2 _ _ hj).2
            rw [k2] at k1
            simp at k1
            have : 1 * sz' ≤ len * sz' := Nat.mul_le_mul_right _ hpos
            omega
          subst hsz
          refine .inr ⟨L'.blk, L'.off + off, rfl, fun j ds hj i c hi => ?_⟩
          obtain ⟨k1, k2⟩ := hel2 _ _ hj
          rw [k2, List.getElem?_take] at hi
          split at hi
          · rw [List.getElem?_drop] at hi
            obtain ⟨u, hu1, hu2⟩ := h3 _ _ hi
            exact ⟨u, by rw [← hu1]; congr 1; omega, hu2⟩
          · cases hi
      · cases he
    · cases he
  | _ => cases he
theorem run_firstCells {own : Nat → Prop} {es : List (List PV)} {sz : Nat} (hall : allOf sz es = true) {ad : Option Addr} {cap : Nat}
    (h : es = [] ∨ ∃ b o, ad = some ⟨b, o, none⟩ ∧ ∀ (j : Nat) (cs : List PV), es[j]? = some cs → CellsAt G own w b (o + j * sz) cs) (m : Nat) (hm : m ≤ es.length) :
    ∃ us : Array Value, (∀ w' : World, Below w.heap.size w w' → (Builtin.firstCells sz m (.slice ad es.length cap)).run P w' = .ok us w') ∧ us.size = m * sz ∧ ∀ (j : Nat) (cs : List PV) (i : Nat) (c : PV), j < m → es[j]? = some cs → cs[i]? = some c → Rep G own w (us.getD (j * sz + i) undef) c := by
  rcases h with rfl | ⟨b, o, rfl, hc⟩
  · have : m = 0 := by simpa using hm
    subst this
    refine ⟨#[], fun w' _ => ?_, by simp, fun j cs i c hj => by omega⟩
    cases ad with
    | none => rfl
    | some a => simp [Builtin.firstCells, loadCells, loadCellsFrom]
  · have hv : ∀ q, ∃ v, q < m * sz → cellAt w b (o + q) = some v ∧ ∀ (j : Nat) (cs : List PV) (i : Nat) (c : PV), q = j * sz + i → es[j]? = some cs → cs[i]? = some c → Rep G own w v c := by
      intro q
      by_cases hq : q < m * sz
      · have hsz : 0 < sz := by
          rcases Nat.eq_zero_or_pos sz with h0 | h0
          · subst h0; simp at hq
          · exact h0
        have hj : q / sz < es.length := by
          have : q / sz < m := (Nat.div_lt_iff_lt_mul hsz).2 hq
          omega
        have hcs := List.getElem?_eq_getElem hj
        have hl := allOf_spec hall hcs
        have hi : q % sz < (es[q / sz]).length := by rw [hl]; exact Nat.mod_lt _ hsz
        have hqq : q / sz * sz + q % sz = q := by rw [Nat.mul_comm]; exact Nat.div_add_mod q sz
        obtain ⟨v, h1, h2⟩ := hc _ _ hcs _ _ (List.getElem?_eq_getElem hi)
        rw [Nat.add_assoc, hqq] at h1
        refine ⟨v, fun _ => ⟨h1, fun j cs i c he hj' hi' => ?_⟩⟩
        have hi2 : i < sz := by
          have := allOf_spec hall hj'
          have := (List.getElem?_eq_some_iff.1 hi').1
          omega
        have hjq : j = q / sz := by
          rw [he, Nat.mul_comm, Nat.mul_add_div hsz, Nat.div_eq_of_lt hi2]; rfl
        have hiq : i = q % sz := by
          rw [he, Nat.mul_comm, Nat.mul_add_mod, Nat.mod_eq_of_lt hi2]
        subst hjq
        rw [hcs] at hj'
        injection hj' with hj'
        subst hj'
        subst hiq
        rw [List.getElem?_eq_getElem hi] at hi'
        injection hi' with hi'
        subst hi'
        exact h2
      · exact ⟨undef, fun h => absurd h hq⟩
    obtain ⟨f, hf⟩ := Classical.axiomOfChoice hv
    refine ⟨((List.range (m * sz)).map f).toArray, fun w' hb' => ?_, by simp, fun j cs i c hj hcs hi => ?_⟩
    · simp only [Builtin.firstCells]
      rw [run_loadCells w' _ _ f (fun j hj => by rw [add_at, hb'.cell (cellAt_lt (hf j hj).1)]; exact (hf j hj).1)]
    · have hi2 : i < sz := by
        have := allOf_spec hall hcs
        have := (List.getElem?_eq_some_iff.1 hi).1
        omega
      have hlt : j * sz + i < m * sz := mul_lt_of hj hi2
      have := (hf _ hlt).2 j cs i c rfl hcs hi
      simpa [hlt] using this
theorem bytesOf?_spec : ∀ {es : List (List PV)} {bs : List UInt8}, bytesOf? es = some bs → es.length = bs.length ∧ ∀ (j : Nat) (cs : List PV), es[j]? = some cs → ∃ m : Int, cs = [.int .u8 m] ∧ bs[j]? = some (UInt8.ofNat m.toNat)
  | [], bs, h => by injection h with h; subst h; exact ⟨rfl, fun j cs hj => by simp at hj⟩
  | e :: r, bs, h => by
    unfold bytesOf? at h
    split at h
    · rename_i he; cases he
    · rename_i m r' he
      injection he with he1 he2
      subst he1 he2
      obtain ⟨bs', hb, rfl⟩ := Option.map_eq_some_iff.1 h
      obtain ⟨h1, h2⟩ := bytesOf?_spec hb
      refine ⟨by simp [h1], fun j cs hj => ?_⟩
      cases j with
      | zero => simp at hj; subst hj; exact ⟨m, rfl, by simp⟩
      | succ j => simpa using h2 j cs (by simpa using hj)
    · cases h
theorem q_toStr (hI : Inv X st G w) (hE : EnvRep G (OwnF X st G) w n ρ a) {o : Oper} {s t e : TypeId} {x : Operand} (ho : o.op = .convert s t x) (hs : P.underlying s = some (.slice e)) (he : P.underlying e = some (.int .u8)) (ht : P.underlying t = some .string) {y : Opd} (hy : cOpd x = some y) {es : List (List PV)} {bs : List UInt8}
    (hes : elemsOf st.get (y.ev ρ) = some es) (hb : bytesOf? es = some bs) : QOk P X st G w o a (.str bs) := by
  obtain ⟨hl, hcell⟩ := bytesOf?_spec hb
  have hall : allOf 1 es = true := by
    refine List.all_eq_true.2 fun cs hcs => ?_
    obtain ⟨j, hj⟩ := List.getElem?_of_mem hcs
    obtain ⟨m, rfl, _⟩ := hcell j cs hj
    rfl
  obtain ⟨ad, cap, hv, hrep⟩ := elems_rep hI (opd_rep hE hy) hes hall
  refine qok_same ?_ (.str bs)
  simp only [execOp, ho, hv]
  rcases hrep with rfl | ⟨b, ob, rfl, hc⟩
  · have hbs : bs = [] := by cases bs with
      | nil => rfl
      | cons x r => simp at hl
    subst hbs
    cases ad with
    | none => simp [run_convert_bytes_nil w s e hs he 0 cap t ht]; rfl
    | some ad =>
      simp [convert, run_underlying hs, run_underlying ht, run_underlying he, Conv.bytesToString, loadCells, loadCellsFrom]
      rfl
  · have hx : ∀ j, ∃ m : Int, j < es.length → es[j]? = some [.int .u8 m] ∧ bs[j]? = some (UInt8.ofNat m.toNat) := by
      intro j
      by_cases hj : j < es.length
      · obtain ⟨m, h1, h2⟩ := hcell j _ (List.getElem?_eq_getElem hj)
        exact ⟨m, fun _ => ⟨by rw [List.getElem?_eq_getElem hj, h1], h2⟩⟩
      · exact ⟨0, fun h => absurd h hj⟩
    obtain ⟨f, hf⟩ := Classical.axiomOfChoice hx
    have := run_convert_bytes_arg (P := P) w s e hs he b ob es.length cap ((List.range es.length).map f) (by simp) (fun i hi => by
      obtain ⟨u, h1, h2⟩ := hc i _ (hf i hi).1 0 _ rfl
      have h3 := rep_int h2
      subst h3
      have h4 : cellAt w b (ob + i) = some (.int .u8 (f i)) := by rw [← h1]; congr 1; omega
      simpa [cellAt, hi] using h4) t ht
    rw [Sem.run_bind, this]
    simp only [Result.andThen_ok, Sem.run_pure]
    congr 2
    unfold strOfNums
    have : bs = ((List.range es.length).map f).map fun q => UInt8.ofNat q.toNat := by
      apply List.ext_getElem?
      intro i
      by_cases hi : i < es.length
      · rw [(hf i hi).2]; simp [hi]
      · rw [List.getElem?_eq_none (by omega), List.getElem?_eq_none (by simp; omega)]
    rw [this]
theorem bytesWorld_below (w : World) (e : TypeId) (s : ByteArray) : Below w.heap.size w (Lib.bytesWorld w e s) :=
  ⟨rfl, rfl, rfl, by rw [Lib.bytesWorld_size]; omega, fun k hk => Lib.bytesWorld_at_old w e s k hk⟩
theorem q_toBytes (hI : Inv X st G w) (hE : EnvRep G (OwnF X st G) w n ρ a) {o : Oper} {s t e : TypeId} {x : Operand} (ho : o.op = .convert s t x) {d : TypeDesc} (hs : P.underlying s = some d) (ht : P.underlying t = some (.slice e)) (he : P.underlying e = some (.int .u8)) {y : Opd} (hy : cOpd x = some y) {bs : List UInt8}
    (hb : y.ev ρ = .str bs) : QOk P X st G w o a (.sl (byteCells bs) false) := by
  have hr := opd_rep hE hy
  rw [hb] at hr
  have hv := rep_str hr
  have hsz : (⟨bs.toArray⟩ : ByteArray).size = bs.length := by simp [ByteArray.size]
  refine ⟨.slice (some ⟨w.heap.size, 0, none⟩) (⟨bs.toArray⟩ : ByteArray).size (grownCap w (⟨bs.toArray⟩ : ByteArray).size 0 e), Lib.bytesWorld w e ⟨bs.toArray⟩, ?_, bytesWorld_below w e _, ?_⟩
  · simp only [execOp, ho, hv]
    rw [Sem.run_bind, Lib.run_convert_string_bytes w s t e _ hs ht he]
    rfl
  · have hge := grownCap_ge w (⟨bs.toArray⟩ : ByteArray).size 0 e
    have hnew : ∀ b, OwnF X st G b → b < w.heap.size := by
      intro b hb
      rcases hb with hb | ⟨t', k, L, h1, h2, h3, h4⟩
      · exact Nat.lt_of_lt_of_le (hI.foreign b hb).1 hI.frame.size
      · have := (hI.low _ _ _ h3).2; omega
    have := Rep.sl (G := G) (own := OwnF X st G) (w := Lib.bytesWorld w e ⟨bs.toArray⟩) (byteCells bs) false w.heap.size 0 (grownCap w (⟨bs.toArray⟩ : ByteArray).size 0 e) 1 ⟨w.heap.size, 0, none⟩ (fun j _ => .int .u8 (bs.getD j 0).toNat)
      (by simpa [byteCells, hsz] using hge) (by simp) (fun _ => rfl) (fun j cs hj => by
        simp only [byteCells, List.getElem?_map] at hj
        obtain ⟨q, _, rfl⟩ := Option.map_eq_some_iff.1 hj
        rfl)
      (fun j cs i c hj hi => by
        simp only [byteCells, List.getElem?_map] at hj
        obtain ⟨q, hq, rfl⟩ := Option.map_eq_some_iff.1 hj
        have hlt := (List.getElem?_eq_some_iff.1 hq).1
        have hi0 : i = 0 := by
          have := (List.getElem?_eq_some_iff.1 hi).1
          simp at this
          exact this
        subst hi0
        refine ⟨?_, fun ho => by have := hnew _ ho; omega⟩
        have := Lib.bytesWorld_cell w e ⟨bs.toArray⟩ j (by simpa [hsz] using hlt)
        simpa [cellAt] using this)
      (fun j cs i c hj hi => by
        simp only [byteCells, List.getElem?_map] at hj
        obtain ⟨q, hq, rfl⟩ := Option.map_eq_some_iff.1 hj
        have hi0 : i = 0 := by
          have := (List.getElem?_eq_some_iff.1 hi).1
          simp at this
          exact this
        subst hi0
        simp at hi
        subst hi
        have : bs.getD j 0 = q := by simp [List.getD_eq_getElem?_getD, hq]
        rw [this]
        exact .int _ _)
    have hbl : (byteCells bs).length = (⟨bs.toArray⟩ : ByteArray).size := by simp [byteCells, hsz]
    rw [hbl] at this
    exact this
theorem len_rep {own : Nat → Prop} {v : Value} {p : PV} (h : Rep G own w v p) {m : Nat} (hm : lenOf p = some m) : (∃ ad cap, v = .slice ad m cap) ∨ ∃ s : ByteArray, v = .string s ∧ s.size = m := by
  cases h with
  | str s => injection hm with hm; exact .inr ⟨_, rfl, by simpa [ByteArray.size] using hm⟩
  | nilSl => injection hm with hm; subst hm; exact .inl ⟨_, _, rfl⟩
  | sl xs full b o cap sz adr u hcap hfull hadr hsz hc hr => injection hm with hm; subst hm; exact .inl ⟨_, _, rfl⟩
  | osl t g off len full L cap a h hcap hL hfull ha => injection hm with hm; subst hm; exact .inl ⟨_, _, rfl⟩
  | vsl t off sz len L cap a h hcap ha => injection hm with hm; subst hm; exact .inl ⟨_, _, rfl⟩
  | _ => cases hm
end
end Go.AM
set_option linter.unusedVariables false
set_option linter.unusedSimpArgs false
namespace Go.AM
open Go.RowKit
variable [Gl]
section
variable {P : Program} {X : Cx} {st : St} {G : Gh} {w : World} {n : Nat} {ρ : Env} {a : Act}
def lenKind : TypeDesc → Option Bool
  | .string => some true
  | .slice _ => some false
  | _ => none
theorem q_len (hE : EnvRep G (OwnF X st G) w n ρ a) {o : Oper} {t : TypeId} {x : Operand} (ho : o.op = .call { callee := .builtin .len, args := #[x], argTypes := #[t] }) {d : TypeDesc} (ht : P.underlying t = some d) {txt : Bool} (hd : lenKind d = some txt) {y : Opd} (hy : cOpd x = some y) {m : Nat}
    (hk : (isStr (y.ev ρ) == txt) = true) (hm : lenOf (y.ev ρ) = some m) : QOk P X st G w o a (.int .i64 m) := by
  have hr := opd_rep hE hy
  generalize hav : a.eval x = v at hr
  generalize hev : y.ev ρ = p at hr hk hm
  have run : ∀ w' : World, (Builtin.len_ #[t] o.type #[v]).run P w' = .ok (goInt m) w' := by
    intro w'
    cases d <;> simp [lenKind] at hd
    case string =>
      subst hd
      cases hr <;> simp [isStr] at hk
      rename_i s
      injection hm with hm
      have hs : (⟨s.toArray⟩ : ByteArray).size = m := by rw [← hm]; exact (by simp [ByteArray.size])
      simp [Builtin.len_, run_underlying ht, hs]
    case slice =>
      subst hd
      rcases len_rep hr hm with ⟨ad, cap, rfl⟩ | ⟨s, rfl, hs⟩
      · simp [Builtin.len_, run_underlying ht]
      · cases hr <;> simp [isStr] at hk
        cases hm
  refine qok_same ?_ (.int _ _)
  simp only [execOp, ho, resolve]
  simp [invoke, builtin, hav, run]
  rfl
theorem q_cap (hE : EnvRep G (OwnF X st G) w n ρ a) {o : Oper} {t e : TypeId} {x : Operand} (ho : o.op = .call { callee := .builtin .cap, args := #[x], argTypes := #[t] }) (ht : P.underlying t = some (.slice e)) {y : Opd} (hy : cOpd x = some y) {m : Nat}
    (hm : cap? (y.ev ρ) = some m) : QOk P X st G w o a (.int .i64 m) := by
  have hr := opd_rep hE hy
  generalize hav : a.eval x = v at hr
  generalize hev : y.ev ρ = p at hr hm
  have hv : ∃ ad l, v = .slice ad l m := by
    unfold cap? at hm
    split at hm
    · injection hm with hm; subst hm; cases hr; exact ⟨_, _, rfl⟩
    · rename_i xs
      injection hm with hm
      subst hm
      cases hr with
      | sl _ _ b o cap sz adr u hcap hfull hadr hsz hc hr' =>
        have := hfull rfl
        subst this
        exact ⟨_, _, rfl⟩
    · rename_i t' g off len
      injection hm with hm
      subst hm
      cases hr with
      | osl _ _ _ _ _ L cap ad h hcap hL hfull ha =>
        have := hfull rfl
        subst this
        exact ⟨_, _, rfl⟩
    · cases hm
  obtain ⟨ad, l, rfl⟩ := hv
  refine qok_same ?_ (.int _ _)
  simp only [execOp, ho, resolve]
  simp [invoke, builtin, hav, Builtin.cap_, run_underlying ht]
  rfl
theorem minmaxI_run {own : Nat → Prop} {mx : Bool} {k : IntKind} : ∀ (r : List PV) (i : Int) {p : PV}, minmaxI mx k i r = some p → ∀ vs : List Value, vs.length = r.length → (∀ (j : Nat) (c : PV), r[j]? = some c → Rep G own w (vs.getD j undef) c) →
    ∃ u, (vs.foldlM (if mx then Builtin.max2 else Builtin.min2) (Value.int k i)).run P w = .ok u w ∧ Rep G own w u p
  | [], i, p, h, vs, hl, hv => by
    have : vs = [] := List.eq_nil_of_length_eq_zero hl
    subst this
    injection h with h
    subst h
    exact ⟨_, rfl, .int _ _⟩
  | c :: r, i, p, h, vs, hl, hv => by
    cases vs with
    | nil => simp at hl
    | cons v vs =>
      have h0 := hv 0 c rfl
      simp at h0
      cases c <;> simp only [minmaxI, reduceCtorEq] at h
      rename_i k' j
      have hj := rep_int h0
      subst hj
      obtain ⟨u, hu, hr⟩ := minmaxI_run r _ h vs (by simpa using hl) (fun m c hm => by simpa using hv (m + 1) c (by simpa using hm))
      refine ⟨u, ?_, hr⟩
      rw [List.foldlM_cons, Sem.run_bind]
      cases mx
      · simp only [Bool.false_eq_true, if_false, Builtin.min2, Sem.run_pure, Result.andThen_ok] at hu ⊢
        exact hu
      · simp only [if_true, Builtin.max2, Sem.run_pure, Result.andThen_ok] at hu ⊢
        exact hu
theorem q_minmax (hE : EnvRep G (OwnF X st G) w n ρ a) {o : Oper} {mx : Bool} {xs : Array Operand} {ts : Array TypeId} (ho : o.op = .call { callee := .builtin (if mx then .max else .min), args := xs, argTypes := ts }) {ys : List Opd} (hy : cOpds xs.toList = some ys) {p : PV}
    (hm : minmax? mx (ys.map (Opd.ev ρ)) = some p) : QOk P X st G w o a p := by
  obtain ⟨hl, hrep⟩ := opds_rep hE hy
  cases hys : ys.map (Opd.ev ρ) with
  | nil => rw [hys] at hm; cases hm
  | cons c r =>
    rw [hys] at hm hrep
    have hxs : ∃ v vs, xs.toList.map a.eval = v :: vs := by
      cases hh : xs.toList.map a.eval with
      | nil =>
        have h1 : xs.toList.length = 0 := by simpa using congrArg List.length hh
        have h2 : (ys.map (Opd.ev ρ)).length = r.length + 1 := by rw [hys]; rfl
        simp at h2
        omega
      | cons v vs => exact ⟨v, vs, rfl⟩
    obtain ⟨v, vs, hxs⟩ := hxs
    rw [hxs] at hrep
    have h0 := hrep 0 c rfl
    simp at h0
    cases c <;> simp only [minmax?, reduceCtorEq] at hm
    rename_i k i
    have hi := rep_int h0
    subst hi
    have hlen : vs.length = r.length := by
      have h1 : (xs.toList.map a.eval).length = vs.length + 1 := by rw [hxs]; rfl
      have h2 : (ys.map (Opd.ev ρ)).length = r.length + 1 := by rw [hys]; rfl
      simp at h1 h2
      have h3 : xs.toList.length = ys.length := hl
      simp at h3
      omega
    obtain ⟨u, hu, hr⟩ := minmaxI_run (P := P) (w := w) (G := G) (own := OwnF X st G) r i hm vs hlen (fun j c hj => by simpa using hrep (j + 1) c (by simpa using hj))
    refine qok_same (u := u) ?_ hr
    have hx2 : (xs.map a.eval).toList = Value.int k i :: vs := by simpa using hxs
    simp only [execOp, ho, resolve]
    cases mx
    · simp only [Bool.false_eq_true, if_false] at hu ⊢
      simp only [Sem.run_bind, Sem.run_pure, Result.andThen_ok, invoke, builtin, Builtin.min_, hx2, hu]
    · simp only [if_true] at hu ⊢
      simp only [Sem.run_bind, Sem.run_pure, Result.andThen_ok, invoke, builtin, Builtin.max_, hx2, hu]
theorem foldl_set (vs : Array Value) (off : Nat) : ∀ (l : List Value) (j : Nat) (cs : Array Value), off + (j + l.length) ≤ cs.size →
    ((l.zipIdx j).foldl (fun cs (p : Value × Nat) => cs.setIfInBounds (off + p.2) p.1) cs).size = cs.size ∧
    ∀ k, ((l.zipIdx j).foldl (fun cs (p : Value × Nat) => cs.setIfInBounds (off + p.2) p.1) cs)[k]? = if off + j ≤ k ∧ k < off + (j + l.length) then l[k - (off + j)]? else cs[k]?
  | [], j, cs, h => by
    refine ⟨rfl, fun k => ?_⟩
    rw [if_neg (by simp only [List.length_nil]; omega)]
    rfl
  | x :: l, j, cs, h => by
    simp only [List.length_cons] at h
    obtain ⟨h1, h2⟩ := foldl_set vs off l (j + 1) (cs.setIfInBounds (off + j) x) (by simp; omega)
    refine ⟨by simpa using h1, fun k => ?_⟩
    simp only [List.zipIdx_cons, List.foldl_cons]
    rw [h2 k]
    by_cases hk : k = off + j
    · subst hk
      rw [if_neg (by omega), if_pos (by simp only [List.length_cons]; omega)]
      simp [Array.getElem?_setIfInBounds]
      omega
    · by_cases hk2 : off + (j + 1) ≤ k ∧ k < off + (j + 1 + l.length)
      · rw [if_pos hk2, if_pos (by simp only [List.length_cons]; omega)]
        rw [show k - (off + j) = (k - (off + (j + 1))) + 1 by omega]
        simp
      · rw [if_neg hk2, if_neg (by simp only [List.length_cons]; omega)]
        rw [Array.getElem?_setIfInBounds, if_neg (by omega)]
def CellsRep (G : Gh) (own : Nat → Prop) (w : World) (cells : Array Value) (zs : List PV) : Prop :=
  cells.size = zs.length ∧ ∀ (j : Nat) (c : PV), zs[j]? = some c → Rep G own w (cells.getD j undef) c
theorem junk_ne {p : PV} (h : p.isJunk = false) : p ≠ .junk := by intro e; subst e; cases h
theorem put_part {own : Nat → Prop} {cells : Array Value} {zs : List PV} (hc : CellsRep G own w cells zs) {v : Value} {p : PV} (hr : Rep G own w v p) (hp : p.isJunk = false) {off : Nat} (ho : off + p.cells.length ≤ zs.length) :
    CellsRep G own w (v.cells.zipIdx.foldl (fun cs (c, j) => cs.setIfInBounds (off + j) c) cells) (zs.take off ++ p.cells ++ zs.drop (off + p.cells.length)) := by
  obtain ⟨h1, h2⟩ := rep_cells hr (junk_ne hp)
  have hf := foldl_set v.cells off v.cells.toList 0 cells (by simp [h1, hc.1]; omega)
  have he : v.cells.zipIdx.foldl (fun cs (c, j) => cs.setIfInBounds (off + j) c) cells = (v.cells.toList.zipIdx 0).foldl (fun cs (p : Value × Nat) => cs.setIfInBounds (off + p.2) p.1) cells := by
    rw [← Array.foldl_toList]
    simp
  rw [he]
  refine ⟨by rw [hf.1, hc.1]; simp; omega, fun j c hj => ?_⟩
  rw [Array.getD_eq_getD_getElem?, hf.2 j]
  simp only [Nat.zero_add, Nat.add_zero, Array.length_toList, h1]
  rw [List.append_assoc, List.getElem?_append] at hj
  have hlt : (zs.take off).length = off := by simp; omega
  rw [hlt] at hj
  split at hj
  · rename_i hj1
    rw [if_neg (by omega)]
    rw [List.getElem?_take, if_pos hj1] at hj
    have := hc.2 j c hj
    rwa [Array.getD_eq_getD_getElem?] at this
  · rename_i hj1
    rw [List.getElem?_append] at hj
    split at hj
    · rename_i hj2
      rw [if_pos (by omega)]
      have := h2 _ c hj
      simpa [Array.getD_eq_getD_getElem?] using this
    · rename_i hj2
      rw [if_neg (by omega)]
      rw [List.getElem?_drop] at hj
      have := hc.2 _ c hj
      rw [Array.getD_eq_getD_getElem?] at this
      rwa [show off + p.cells.length + (j - off - p.cells.length) = j by omega] at this
theorem fill_rep {own : Nat → Prop} {place : Nat → Option (Nat × Nat)} : ∀ (ps : List (Nat × Value)) (qs : List (Nat × Nat × PV)) (cells : Array Value) (zs out : List PV), ps.length = qs.length →
    (∀ (j : Nat) (i : Nat) (v : Value) (off k : Nat) (p : PV), ps[j]? = some (i, v) → qs[j]? = some (off, k, p) → place i = some (off, k) ∧ Rep G own w v p) → CellsRep G own w cells zs → fillParts zs qs = some out →
    ∃ cells', Instr.fill place cells ps = some cells' ∧ CellsRep G own w cells' out
  | [], qs, cells, zs, out, hl, hp, hc, h => by
    have : qs = [] := List.eq_nil_of_length_eq_zero (by simpa using hl.symm)
    subst this
    injection h with h
    subst h
    exact ⟨cells, rfl, hc⟩
  | (i, v) :: ps, qs, cells, zs, out, hl, hp, hc, h => by
    cases qs with
    | nil => simp at hl
    | cons q qs =>
      obtain ⟨off, k, p⟩ := q
      obtain ⟨h1, h2⟩ := hp 0 i v off k p rfl rfl
      simp only [fillParts] at h
      split at h
      · rename_i hcond
        obtain ⟨hj, hk, ho⟩ := hcond
        subst hk
        have hcells := rep_cells h2 (junk_ne hj)
        have hpp := put_part hc h2 hj ho
        obtain ⟨cells', hf, hr⟩ := fill_rep ps qs _ _ out (by simpa using hl) (fun j i v off k p hj hq => hp (j + 1) i v off k p (by simpa using hj) (by simpa using hq)) hpp h
        refine ⟨cells', ?_, hr⟩
        simp only [Instr.fill, h1]
        have k1 := hcells.1
        have k2 := hc.1
        rw [if_neg (by simp [k1]; omega)]
        exact hf
      · cases h
def cParts (place : Nat → Option (Nat × Nat)) : List (Nat × Operand) → Option (List (Nat × Nat × Opd))
  | [] => some []
  | (i, x) :: r => match place i, cOpd x, cParts place r with
    | some (off, k), some y, some ys => some ((off, k, y) :: ys)
    | _, _, _ => none
theorem parts_rep (hE : EnvRep G (OwnF X st G) w n ρ a) {place : Nat → Option (Nat × Nat)} : ∀ {ps : List (Nat × Operand)} {qs : List (Nat × Nat × Opd)}, cParts place ps = some qs → (ps.map fun (p : Nat × Operand) => (p.1, a.eval p.2)).length = (qs.map fun p => (p.1, p.2.1, p.2.2.ev ρ)).length ∧
    ∀ (j : Nat) (i : Nat) (v : Value) (off k : Nat) (p : PV), (ps.map fun (p : Nat × Operand) => (p.1, a.eval p.2))[j]? = some (i, v) → (qs.map fun p => (p.1, p.2.1, p.2.2.ev ρ))[j]? = some (off, k, p) → place i = some (off, k) ∧ Rep G (OwnF X st G) w v p
  | [], qs, h => by injection h with h; subst h; exact ⟨rfl, fun j i v off k p hj => by simp at hj⟩
  | (i0, x) :: ps, qs, h => by
    simp only [cParts] at h
    split at h
    · rename_i off0 k0 y ys h1 h2 h3
      injection h with h
      subst h
      obtain ⟨e1, e2⟩ := parts_rep hE h3
      refine ⟨by simpa using e1, fun j i v off k p hj hq => ?_⟩
      cases j with
      | zero =>
        simp at hj hq
        obtain ⟨rfl, rfl⟩ := hj
        obtain ⟨rfl, rfl, rfl⟩ := hq
        exact ⟨h1, opd_rep hE h2⟩
      | succ j => exact e2 j i v off k p (by simpa using hj) (by simpa using hq)
    · cases h
def zeroOf (P : Program) (t : TypeId) : Option (List PV) :=
  match tyOf P t with
  | some (_, i) => match i.zero with
    | some z => match cVal z with
      | some p => if p.isJunk = false then some p.cells else none
      | none => none
    | none => none
  | none => none
theorem zeroOf_spec {own : Nat → Prop} {t : TypeId} {zs : List PV} (h : zeroOf P t = some zs) : ∃ z, (∀ w' : World, (zeroValue t).run P w' = .ok z w') ∧ CellsRep G own w z.cells zs := by
  unfold zeroOf at h
  split at h
  · rename_i d i hT
    split at h
    · rename_i z hz
      split at h
      · rename_i p hp
        split at h
        · rename_i hj
          injection h with h
          subst h
          exact ⟨z, fun w' => run_zeroValue hT hz, rep_cells (cVal_rep hp) (junk_ne hj)⟩
        · cases h
      · cases h
    · cases h
  · cases h
def placesOf (P : Program) (fs : Array Field) (i : Nat) : Option (Nat × Nat) :=
  match fs[i]? with
  | some f => match tyOf P f.type with
    | some (_, inf) => some (f.offset, inf.size)
    | none => none
  | none => none
def cBuild (P : Program) (t : TypeId) (parts : List (Nat × Operand)) : Option PI :=
  match zeroOf P t, P.underlying t with
  | some zs, some (.struct fs) =>
    if fs.all (fun f => (tyOf P f.type).isSome) then (cParts (placesOf P fs) parts).map (.build zs) else none
  | some zs, some (.array _ e) => match tyOf P e with
    | some (_, i) => (cParts (fun j => some (j * i.size, i.size)) parts).map (.build zs)
    | none => none
  | _, _ => none
theorem mapM_places : ∀ (fs : List Field), fs.all (fun f => (tyOf P f.type).isSome) = true → ∀ w' : World, (fs.mapM fun f => do pure (f.offset, ← sizeOf f.type) : Sem (List (Nat × Nat))).run P w' = .ok (fs.map fun f => (f.offset, P.cellsOf f.type)) w'
  | [], _, w' => rfl
  | f :: fs, h, w' => by
    simp only [List.all_cons, Bool.and_eq_true] at h
    obtain ⟨⟨d, i⟩, hT⟩ := Option.isSome_iff_exists.1 h.1
    have ih := mapM_places fs h.2
    have hs : P.cellsOf f.type = i.size := by simp [Program.cellsOf, (tyOf_spec hT).2]
    simp only [List.mapM_cons, Sem.run_bind, run_sizeOf hT, Result.andThen_ok, Sem.run_pure, ih, List.map_cons, hs]
theorem q_build (hE : EnvRep G (OwnF X st G) w n ρ a) {o : Oper} {t : TypeId} {parts : Array (Nat × Operand)} (ho : o.op = .build t parts) {pi : PI} (hc : cBuild P t parts.toList = some pi) {p : PV} (hq : quiet st.get (Opd.ev ρ) pi = some p) : QOk P X st G w o a p := by
  have hpl : (parts.map fun (i, x) => (i, a.eval x)).toList = parts.toList.map fun (p : Nat × Operand) => (p.1, a.eval p.2) := by simp
  unfold cBuild at hc
  split at hc
  · rename_i zs fs hz hU
    split at hc
    · rename_i hall
      obtain ⟨qs, hqs, rfl⟩ := Option.map_eq_some_iff.1 hc
      simp only [quiet] at hq
      obtain ⟨out, hout, rfl⟩ := Option.map_eq_some_iff.1 hq
      obtain ⟨z, hzr, hzc⟩ := zeroOf_spec (G := G) (own := OwnF X st G) (w := w) hz
      obtain ⟨e1, e2⟩ := parts_rep hE hqs
      have hplace : ∀ i off k, placesOf P fs i = some (off, k) → (fs.toList.map fun f => (f.offset, P.cellsOf f.type))[i]? = some (off, k) := by
        intro i off k h
        unfold placesOf at h
        split at h
        · rename_i f hf
          split at h
          · rename_i d inf hT
            injection h with h
            simp only [Prod.mk.injEq] at h
            obtain ⟨rfl, rfl⟩ := h
            simp [hf, Program.cellsOf, (tyOf_spec hT).2]
          · cases h
        · cases h
      obtain ⟨cells', hf, hr⟩ := fill_rep (place := fun i => (fs.toList.map fun f => (f.offset, P.cellsOf f.type)).toArray[i]?) _ _ _ _ _ e1 (fun j i v off k p hj hq => by
        obtain ⟨k1, k2⟩ := e2 j i v off k p hj hq
        exact ⟨by simpa using hplace _ _ _ k1, k2⟩) hzc hout
      refine qok_same (u := .agg cells') ?_ (.agg _ _ hr.1 hr.2)
      have hm : ∀ w' : World, (fs.mapM fun f => do pure (f.offset, ← sizeOf f.type) : Sem (Array (Nat × Nat))).run P w' = .ok (fs.toList.map fun f => (f.offset, P.cellsOf f.type)).toArray w' := by
        intro w'
        rw [Array.mapM_eq_mapM_toList, Sem.run_map, mapM_places fs.toList (by simpa using hall) w']
        rfl
      simp only [execOp, ho, Instr.build]
      rw [Sem.run_bind, Sem.run_bind, hzr, Result.andThen_ok, Sem.run_bind, run_underlying hU, Result.andThen_ok]
      simp only
      rw [Sem.run_bind, hm, Result.andThen_ok]
      simp only [hpl, hf]
      simp
    · cases hc
  · rename_i zs len e hz hU
    split at hc
    · rename_i d i hT
      obtain ⟨qs, hqs, rfl⟩ := Option.map_eq_some_iff.1 hc
      simp only [quiet] at hq
      obtain ⟨out, hout, rfl⟩ := Option.map_eq_some_iff.1 hq
      obtain ⟨z, hzr, hzc⟩ := zeroOf_spec (G := G) (own := OwnF X st G) (w := w) hz
      obtain ⟨e1, e2⟩ := parts_rep hE hqs
      obtain ⟨cells', hf, hr⟩ := fill_rep (place := fun j => some (j * i.size, i.size)) _ _ _ _ _ e1 e2 hzc hout
      refine qok_same (u := .agg cells') ?_ (.agg _ _ hr.1 hr.2)
      simp only [execOp, ho, Instr.build]
      rw [Sem.run_bind, Sem.run_bind, hzr, Result.andThen_ok, Sem.run_bind, run_underlying hU, Result.andThen_ok]
      simp only
      rw [Sem.run_bind, run_sizeOf hT, Result.andThen_ok]
      simp only [hpl, hf]
      simp
    · cases hc
  · cases hc
end
end Go.AM
set_option linter.unusedVariables false
set_option linter.unusedSimpArgs false
namespace Go.AM
open Go.RowKit
variable [Gl]
theorem setCells_other (b : Nat) : ∀ (vs : List Value) (o : Nat) (w : World) (k : Nat), k ≠ b → (w.setCells b o vs).heap[k]? = w.heap[k]?
  | [], _, _, _, _ => rfl
  | v :: r, o, w, k, h => by
    rw [World.setCells, setCells_other b r (o + 1) _ k h]
    exact Below.heap_setCell w ⟨b, o, none⟩ v k h
theorem setCells_meta (b : Nat) : ∀ (vs : List Value) (o : Nat) (w : World), (w.setCells b o vs).os = w.os ∧ (w.setCells b o vs).tape = w.tape ∧ (w.setCells b o vs).output = w.output ∧ (w.setCells b o vs).heap.size = w.heap.size
  | [], _, _ => ⟨rfl, rfl, rfl, rfl⟩
  | v :: r, o, w => by
    rw [World.setCells]
    obtain ⟨h1, h2, h3, h4⟩ := setCells_meta b r (o + 1) (w.setCell ⟨b, o, none⟩ v)
    exact ⟨h1, h2, h3, by rw [h4]; simp [World.setCell]⟩
theorem setCells_chg {S : Nat → Prop} {b o : Nat} {vs : List Value} {w : World} (hS : S b) : Chg S w (w.setCells b o vs) := by
  obtain ⟨h1, h2, h3, h4⟩ := setCells_meta b vs o w
  exact ⟨h1, h2, h3, by omega, fun k hk hn => setCells_other b vs o w k (fun e => hn (e ▸ hS))⟩
theorem setCells_in {b o : Nat} {vs : List Value} {w : World} (h : ∀ j, j < vs.length → ∃ v, cellAt w b (o + j) = some v) {q : Nat} {v : Value} (hq : o ≤ q) (hv : vs[q - o]? = some v) : cellAt (w.setCells b o vs) b q = some v := by
  obtain ⟨hlt, hv⟩ := List.getElem?_eq_some_iff.1 hv
  have := World.cell?_setCells_in b vs o w (fun j hj => by obtain ⟨u, hu⟩ := h j hj; simp [cellAt] at hu; simp [hu]) (q - o) hlt
  rw [show o + (q - o) = q by omega] at this
  rw [cellAt, this, hv]
theorem setCells_out {b o : Nat} {vs : List Value} {w : World} {q : Nat} (hq : q < o ∨ o + vs.length ≤ q) : cellAt (w.setCells b o vs) b q = cellAt w b q := by
  unfold cellAt
  exact World.cell?_setCells_out b vs o w ⟨b, q, none⟩ (fun _ _ => hq)
section
variable {P : Program} {X : Cx} {st : St} {G : Gh} {w : World} {n : Nat} {ρ : Env} {a : Act}
theorem TokRep.keep {G G' : Gh} {own own' S : Nat → Prop} {w w' : World} (hG : ∀ t g L, G t g = some L → G' t g = some L) (hS : Chg S w w') (hSo : ∀ b, S b → own b) (ho : ∀ b, own' b → own b ∨ w.heap.size ≤ b)
    {t : Nat} {k : Tok} (h : TokRep G own w t k) (hb : ∀ L, G t k.gen = some L → ¬ S L.blk ∧ L.blk < w.heap.size) : TokRep G' own' w' t k := by
  have cells : ∀ {b o : Nat} {cs : List PV}, ¬ S b → CellsAt G own w b o cs → CellsAt G' own' w' b o cs := by
    intro b o cs hn hc i p hi
    obtain ⟨v, h1, h2⟩ := hc i p hi
    exact ⟨v, hS.cell h1 hn, h2.mono hG hS hSo ho⟩
  have room : ∀ {b lo hi : Nat}, ¬ S b → b < w.heap.size → Room w b lo hi → Room w' b lo hi := by
    intro b lo hi hn hlt hr o h1 h2
    obtain ⟨⟨v, hv⟩, hf⟩ := hr o h1 h2
    exact ⟨⟨v, hS.cell hv hn⟩, by rw [frozen_congr (hS.block b hlt hn)]; exact hf⟩
  cases k with
  | var cs =>
    obtain ⟨L, h1, h2, h3⟩ := h
    obtain ⟨hn, hlt⟩ := hb L h1
    exact ⟨L, hG _ _ _ h1, room hn hlt h2, cells hn h3⟩
  | row g sz es lv =>
    obtain ⟨L, h1, h2, h3, h4, h5, h6⟩ := h
    obtain ⟨hn, hlt⟩ := hb L h1
    refine ⟨L, hG _ _ _ h1, h2, h3, room hn hlt h4, fun j cs hj => ⟨(h5 j cs hj).1, cells hn (h5 j cs hj).2⟩, fun hlv ho' => ?_⟩
    rcases ho _ ho' with h7 | h7
    · exact h6 hlv h7
    · omega
  | mp es =>
    obtain ⟨L, ms, clock, h1, h2, h3, h4⟩ := h
    obtain ⟨hn, hlt⟩ := hb L h1
    exact ⟨L, ms, clock, hG _ _ _ h1, by rw [hS.block _ hlt hn]; exact h2, h3, fun i s p hi => by
      obtain ⟨e, e1, e2, e3⟩ := h4 i s p hi
      exact ⟨e, e1, e2, e3.mono hG hS hSo ho⟩⟩
theorem inv_below (hI : Inv X st G w) {w' : World} (hb : Below w.heap.size w w') : Inv X st G w' ∧ Later X st G w st G w' := by
  have hc : Chg (fun _ => False) w w' := chg_of_below hb
  have hl : Later X st G w st G w' := ⟨fun _ _ _ h => h, chg_of_below hb, fun _ h => .inl h⟩
  refine ⟨⟨fun t g L h => ⟨(hI.low t g L h).1, Nat.lt_of_lt_of_le (hI.low t g L h).2 hb.size⟩, hI.base, hI.old, fun t k hk => ?_, hI.gens, hI.inj, hI.newg, hI.dom, hI.frame.trans hc (fun i _ h => h.elim), hI.ownb, hI.foreign, hI.glob⟩, hl⟩
  exact (hI.toks t k hk).keep (fun _ _ _ h => h) hc (fun _ h => h.elim) (fun _ h => .inl h) (fun L h => ⟨fun h => h, (hI.low _ _ _ h).2⟩)
def ansOf : Next → Option Value
  | .value u => some u
  | .skip => some undef
  | _ => none
def LOk (P : Program) (X : Cx) (st : St) (G : Gh) (w : World) (o : Oper) (a : Act) (p : PV) (st' : St) : Prop :=
  ∃ nx u w' G', (execOp a.eval o).run P w = .ok nx w' ∧ ansOf nx = some u ∧ Inv X st' G' w' ∧ Later X st G w st' G' w' ∧ Rep G' (OwnF X st' G') w' u p
theorem QOk.lok {o : Oper} {p : PV} (hI : Inv X st G w) (h : QOk P X st G w o a p) : LOk P X st G w o a p st := by
  obtain ⟨u, w', h1, h2, h3⟩ := h
  obtain ⟨h4, h5⟩ := inv_below hI h2
  exact ⟨.value u, u, w', G, h1, rfl, h4, h5, h3⟩
def ghNew (G : Gh) (t g : Nat) (L : Loc) : Gh := fun t' g' => if t' = t ∧ g' = g then some L else G t' g'
theorem ghNew_same (G : Gh) (t g : Nat) (L : Loc) : ghNew G t g L t g = some L := by simp [ghNew]
theorem ghNew_old {G : Gh} {t g : Nat} {L : Loc} (hn : G t g = none) : ∀ t' g' L', G t' g' = some L' → ghNew G t g L t' g' = some L' := by
  intro t' g' L' h
  unfold ghNew
  rw [if_neg]
  · exact h
  · rintro ⟨rfl, rfl⟩
    rw [hn] at h
    cases h
theorem fresh_none (hI : Inv X st G w) (g : Nat) : G st.next g = none := by
  cases h : G st.next g with
  | none => rfl
  | some L => have := (hI.low _ _ _ h).1; omega
theorem new_get (st : St) (k : Tok) (t : Nat) : (st.new k).get t = if st.next = t then some k else st.get t := getA_putA _ _ _ _
theorem put_get (st : St) (t : Nat) (k : Tok) (u : Nat) : (st.put t k).get u = if t = u then some k else st.get u := getA_putA _ _ _ _
theorem get_lt (hI : Inv X st G w) {t : Nat} {k : Tok} (h : st.get t = some k) : t < st.next := by
  have := hI.toks t k h
  cases k with
  | var cs => obtain ⟨L, h1, _⟩ := this; exact (hI.low _ _ _ h1).1
  | row g sz es lv => obtain ⟨L, h1, _⟩ := this; exact (hI.low _ _ _ h1).1
  | mp es => obtain ⟨L, _, _, h1, _⟩ := this; exact (hI.low _ _ _ h1).1
theorem own_lt_size (hI : Inv X st G w) {b : Nat} (h : OwnF X st G b) : b < w.heap.size := by
  rcases h with h | ⟨t, k, L, _, _, h3, h4⟩
  · exact Nat.lt_of_lt_of_le (hI.foreign b h).1 hI.frame.size
  · rw [← h4]; exact (hI.low _ _ _ h3).2
theorem own_new (hI : Inv X st G w) {k : Tok} {L : Loc} (hL : L.blk = w.heap.size) {b : Nat} (h : Own (st.new k) (ghNew G st.next k.gen L) b) : Own st G b ∨ b = w.heap.size := by
  obtain ⟨t, k', L', h1, h2, h3, h4⟩ := h
  rw [new_get] at h1
  split at h1
  · rename_i ht
    subst ht
    injection h1 with h1
    subst h1
    rw [ghNew_same] at h3
    injection h3 with h3
    subst h3
    exact .inr (by omega)
  · rename_i ht
    unfold ghNew at h3
    rw [if_neg (fun hc => ht hc.1.symm)] at h3
    exact .inl ⟨t, k', L', h1, h2, h3, h4⟩
theorem later_new (hI : Inv X st G w) {w' : World} (hb : Below w.heap.size w w') {k : Tok} {L : Loc} (hL : L.blk = w.heap.size) : Later X st G w (st.new k) (ghNew G st.next k.gen L) w' := by
  refine ⟨ghNew_old (fresh_none hI _), chg_of_below hb, fun b hb => ?_⟩
  rcases hb with h | h
  · exact .inl (.inl h)
  · rcases own_new hI hL h with h | h
    · exact .inl (.inr h)
    · exact .inr (by omega)
theorem inv_new (hI : Inv X st G w) {w' : World} (hb : Below w.heap.size w w') (hsz : w.heap.size < w'.heap.size) {k : Tok} {L : Loc} (hL : L.blk = w.heap.size) (hlv : k.live = true)
    (htok : TokRep (ghNew G st.next k.gen L) (OwnF X (st.new k) (ghNew G st.next k.gen L)) w' st.next k) : Inv X (st.new k) (ghNew G st.next k.gen L) w' := by
  have hlater := later_new hI hb (k := k) hL
  have hc : Chg (fun _ => False) w w' := chg_of_below hb
  have old : ∀ {t : Nat} {k' : Tok} {L' : Loc}, (st.new k).get t = some k' → ghNew G st.next k.gen L t k'.gen = some L' → (t = st.next ∧ k' = k ∧ L' = L) ∨ (t ≠ st.next ∧ st.get t = some k' ∧ G t k'.gen = some L') := by
    intro t k' L' h1 h2
    rw [new_get] at h1
    split at h1
    · rename_i ht
      subst ht
      injection h1 with h1
      subst h1
      rw [ghNew_same] at h2
      injection h2 with h2
      exact .inl ⟨rfl, rfl, h2.symm⟩
    · rename_i ht
      unfold ghNew at h2
      rw [if_neg (fun hc => ht hc.1.symm)] at h2
      exact .inr ⟨fun e => ht e.symm, h1, h2⟩
  refine ⟨fun t g L' h => ?_, ?_, fun t g L' h => ?_, fun t k' hk => ?_, fun t k' g L' hk hg => ?_, ?_, fun t g L' h => ?_, fun t k' h => ?_, hI.frame.trans hc (fun i _ h => h.elim), fun b hb' => ?_, hI.foreign, hI.glob⟩
  · unfold ghNew at h
    split at h
    · rename_i hc
      injection h with h
      subst h
      exact ⟨by rw [hc.1]; simp [St.new], by omega⟩
    · have := hI.low t g L' h
      exact ⟨by simp [St.new]; omega, Nat.lt_of_lt_of_le this.2 hb.size⟩
  · have := hI.base
    simp [St.new]
    omega
  · have := hI.old t g L' h
    exact ⟨this.1, ghNew_old (fresh_none hI _) _ _ _ this.2⟩
  · have hk0 := hk
    rw [new_get] at hk
    split at hk
    · rename_i ht
      subst ht
      injection hk with hk
      subst hk
      exact htok
    · rename_i ht
      refine (hI.toks t k' hk).keep (ghNew_old (fresh_none hI _)) hc (fun _ h => h.elim) hlater.own (fun L' h' => ⟨fun h => h, (hI.low _ _ _ h').2⟩)
  · rw [new_get] at hk
    split at hk
    · rename_i ht
      subst ht
      injection hk with hk
      subst hk
      unfold ghNew at hg
      split at hg
      · rename_i hc; exact Nat.le_of_eq hc.2
      · rw [fresh_none hI] at hg; cases hg
    · rename_i ht
      unfold ghNew at hg
      rw [if_neg (fun hc => ht hc.1.symm)] at hg
      exact hI.gens t k' g L' hk hg
  · intro t t' k1 k2 L1 L2 h1 h2 l1 l2 g1 g2 he
    rcases old h1 g1 with ⟨rfl, rfl, rfl⟩ | ⟨n1, a1, b1⟩ <;> rcases old h2 g2 with ⟨rfl, rfl, rfl⟩ | ⟨n2, a2, b2⟩
    · rfl
    · have := (hI.low _ _ _ b2).2; omega
    · have := (hI.low _ _ _ b1).2; omega
    · exact hI.inj t t' k1 k2 L1 L2 a1 a2 l1 l2 b1 b2 he
  · unfold ghNew at h
    split at h
    · rename_i hc'
      have := hI.base
      exact .inr (.inr (by rw [hc'.1]; exact this))
    · exact hI.newg t g L' h
  · rw [new_get] at h
    split at h
    · rename_i ht
      subst ht
      exact .inr hI.base
    · exact hI.dom t k' h
  · rcases own_new hI hL hb' with h | h
    · exact hI.ownb b h
    · exact .inr (by rw [h]; exact hI.frame.size)
theorem inv_put (hI : Inv X st G w) {t : Nat} {k k' : Tok} {L : Loc} (hk : st.get t = some k) (hlv : k.live = true) (hG : G t k.gen = some L) (hlv' : k'.live = true) (hg : k'.gen = k.gen) {w' : World} (hc : Chg (fun b => b = L.blk) w w')
    (htok : TokRep G (OwnF X st G) w' t k') : Inv X (st.put t k') G w' ∧ Later X st G w (st.put t k') G w' := by
  have hown : ∀ b, Own (st.put t k') G b → Own st G b := by
    rintro b ⟨u, k2, L2, h1, h2, h3, h4⟩
    rw [put_get] at h1
    split at h1
    · rename_i hu
      subst hu
      injection h1 with h1
      subst h1
      rw [hg] at h3
      exact ⟨t, k, L2, hk, hlv, h3, h4⟩
    · exact ⟨u, k2, L2, h1, h2, h3, h4⟩
  have hown' : ∀ b, Own st G b → Own (st.put t k') G b := by
    rintro b ⟨u, k2, L2, h1, h2, h3, h4⟩
    by_cases hu : t = u
    · subst hu
      rw [hk] at h1
      injection h1 with h1
      subst h1
      exact ⟨t, k', L2, by rw [put_get, if_pos rfl], hlv', by rw [hg]; exact h3, h4⟩
    · exact ⟨u, k2, L2, by rw [put_get, if_neg hu]; exact h1, h2, h3, h4⟩
  have hownF : OwnF X (st.put t k') G = OwnF X st G := by
    funext b
    exact propext ⟨fun h => h.imp id (hown b), fun h => h.imp id (hown' b)⟩
  have hbo : Own st G L.blk := ⟨t, k, L, hk, hlv, hG, rfl⟩
  have hl : Later X st G w (st.put t k') G w' := ⟨fun _ _ _ h => h, hc.mono (fun i _ h => h ▸ hbo), fun b hb => by rw [hownF] at hb; exact .inl hb⟩
  refine ⟨⟨fun u g L' h => ⟨(hI.low u g L' h).1, Nat.lt_of_lt_of_le (hI.low u g L' h).2 hc.size⟩, hI.base, hI.old, fun u k2 hu => ?_, fun u k2 g L' hu hg' => ?_, ?_, hI.newg, fun u k2 hu => ?_, ?_, fun b hb => hI.ownb b (hown b hb), hI.foreign, hI.glob⟩, hl⟩
  · rw [hownF]
    rw [put_get] at hu
    split at hu
    · rename_i ht
      subst ht
      injection hu with hu
      subst hu
      exact htok
    · rename_i ht
      refine (hI.toks u k2 hu).keep (fun _ _ _ h => h) hc (fun b h => by subst h; exact .inr hbo) (fun _ h => .inl h) (fun L2 h2 => ⟨fun he => ?_, (hI.low _ _ _ h2).2⟩)
      have hh := hI.toks u k2 hu
      cases hlv2 : k2.live with
      | true => exact ht ((hI.inj u t k2 k L2 L hu hk hlv2 hlv h2 hG he).symm)
      | false =>
        cases k2 with
        | var cs => cases hlv2
        | mp es => cases hlv2
        | row g2 sz2 es2 lv2 =>
          obtain ⟨L3, e1, e2, e3, e4, e5, e6⟩ := hh
          simp only [Tok.gen] at h2
          rw [h2] at e1
          injection e1 with e1
          subst e1
          exact e6 hlv2 (by rw [he]; exact .inr hbo)
  · rw [put_get] at hu
    split at hu
    · rename_i ht
      subst ht
      injection hu with hu
      subst hu
      rw [hg]
      exact hI.gens t k g L' hk hg'
    · exact hI.gens u k2 g L' hu hg'
  · intro u u' k1 k2 L1 L2 h1 h2 l1 l2 g1 g2 he
    have conv : ∀ {u : Nat} {k1 : Tok} {L1 : Loc}, (st.put t k').get u = some k1 → k1.live = true → G u k1.gen = some L1 → ∃ k0, st.get u = some k0 ∧ k0.live = true ∧ G u k0.gen = some L1 := by
      intro u k1 L1 h1 l1 g1
      rw [put_get] at h1
      split at h1
      · rename_i hu
        subst hu
        injection h1 with h1
        subst h1
        exact ⟨k, hk, hlv, by rw [← hg]; exact g1⟩
      · exact ⟨k1, h1, l1, g1⟩
    obtain ⟨k3, a1, a2, a3⟩ := conv h1 l1 g1
    obtain ⟨k4, b1, b2, b3⟩ := conv h2 l2 g2
    exact hI.inj u u' k3 k4 L1 L2 a1 b1 a2 b2 a3 b3 he
  · rw [put_get] at hu
    split at hu
    · rename_i ht
      subst ht
      exact hI.dom t k hk
    · exact hI.dom u k2 hu
  · refine hI.frame.trans hc (fun i hi he => ?_)
    subst he
    rcases hI.ownb _ hbo with h | h
    · exact h
    · omega
theorem gen_none (hI : Inv X st G w) {t : Nat} {k : Tok} (hk : st.get t = some k) {g : Nat} (hg : k.gen < g) : G t g = none := by
  cases h : G t g with
  | none => rfl
  | some L => have := hI.gens t k g L hk h; omega
theorem later_regen (hI : Inv X st G w) {t : Nat} {k k' : Tok} {L L' : Loc} (hk : st.get t = some k) (hlv : k.live = true) (hG : G t k.gen = some L) (hg : k.gen < k'.gen) {w' : World} (hc : Chg (fun b => b = L.blk) w w')
    (hL : L'.blk = L.blk ∨ L'.blk = w.heap.size) : Later X st G w (st.put t k') (ghNew G t k'.gen L') w' := by
  have hbo : Own st G L.blk := ⟨t, k, L, hk, hlv, hG, rfl⟩
  refine ⟨ghNew_old (gen_none hI hk hg), hc.mono (fun i _ h => h ▸ hbo), fun b hb => ?_⟩
  rcases hb with hb | ⟨u, k2, L2, h1, h2, h3, h4⟩
  · exact .inl (.inl hb)
  · rw [put_get] at h1
    split at h1
    · rename_i hu
      subst hu
      injection h1 with h1
      subst h1
      rw [ghNew_same] at h3
      injection h3 with h3
      subst h3
      rcases hL with hL | hL
      · exact .inl (.inr ⟨t, k, L, hk, hlv, hG, by omega⟩)
      · exact .inr (by omega)
    · rename_i hu
      unfold ghNew at h3
      rw [if_neg (fun hc => hu hc.1.symm)] at h3
      exact .inl (.inr ⟨u, k2, L2, h1, h2, h3, h4⟩)
theorem inv_regen (hI : Inv X st G w) {t : Nat} {k k' : Tok} {L L' : Loc} (hk : st.get t = some k) (hlv : k.live = true) (hG : G t k.gen = some L) (hlv' : k'.live = true) (hg : k.gen < k'.gen) {w' : World} (hc : Chg (fun b => b = L.blk) w w')
    (hL : L'.blk = L.blk ∨ L'.blk = w.heap.size) (hLs : L'.blk < w'.heap.size) (htok : TokRep (ghNew G t k'.gen L') (OwnF X (st.put t k') (ghNew G t k'.gen L')) w' t k') :
    Inv X (st.put t k') (ghNew G t k'.gen L') w' := by
  have hbo : Own st G L.blk := ⟨t, k, L, hk, hlv, hG, rfl⟩
  have hla := later_regen hI hk hlv hG hg hc hL
  have hnone := gen_none hI hk hg
  have conv : ∀ {u : Nat} {k1 : Tok} {L1 : Loc}, (st.put t k').get u = some k1 → ghNew G t k'.gen L' u k1.gen = some L1 → (u = t ∧ k1 = k' ∧ L1 = L') ∨ (u ≠ t ∧ st.get u = some k1 ∧ G u k1.gen = some L1) := by
    intro u k1 L1 h1 g1
    rw [put_get] at h1
    split at h1
    · rename_i hu
      subst hu
      injection h1 with h1
      subst h1
      rw [ghNew_same] at g1
      injection g1 with g1
      exact .inl ⟨rfl, rfl, g1.symm⟩
    · rename_i hu
      unfold ghNew at g1
      rw [if_neg (fun hc => hu hc.1.symm)] at g1
      exact .inr ⟨fun e => hu e.symm, h1, g1⟩
  refine ⟨fun u g L2 h => ?_, hI.base, fun u g L2 h => ?_, fun u k2 hu => ?_, fun u k2 g L2 hu hg' => ?_, ?_, fun u g L2 h => ?_, fun u k2 hu => ?_, hI.frame.trans hc (fun i hi he => ?_), fun b hb => ?_, hI.foreign, hI.glob⟩
  · unfold ghNew at h
    split at h
    · rename_i hc'
      injection h with h
      subst h
      exact ⟨by rw [hc'.1]; exact get_lt hI hk, hLs⟩
    · exact ⟨(hI.low u g L2 h).1, Nat.lt_of_lt_of_le (hI.low u g L2 h).2 hc.size⟩
  · have := hI.old u g L2 h
    exact ⟨this.1, ghNew_old hnone _ _ _ this.2⟩
  · have hu0 := hu
    rw [put_get] at hu
    split at hu
    · rename_i ht
      subst ht
      injection hu with hu
      subst hu
      exact htok
    · rename_i ht
      refine (hI.toks u k2 hu).keep (ghNew_old hnone) hc (fun b h => by subst h; exact .inr hbo) hla.own (fun L2 h2 => ⟨fun he => ?_, (hI.low _ _ _ h2).2⟩)
      have hh := hI.toks u k2 hu
      cases hlv2 : k2.live with
      | true => exact ht ((hI.inj u t k2 k L2 L hu hk hlv2 hlv h2 hG he).symm)
      | false =>
        cases k2 with
        | var cs => cases hlv2
        | mp es => cases hlv2
        | row g2 sz2 es2 lv2 =>
          obtain ⟨L3, e1, e2, e3, e4, e5, e6⟩ := hh
          simp only [Tok.gen] at h2
          rw [h2] at e1
          injection e1 with e1
          subst e1
          exact e6 hlv2 (by rw [he]; exact .inr hbo)
  · rw [put_get] at hu
    split at hu
    · rename_i ht
      subst ht
      injection hu with hu
      subst hu
      unfold ghNew at hg'
      split at hg'
      · rename_i hc'; exact Nat.le_of_eq hc'.2
      · have := hI.gens t k g L2 hk hg'; omega
    · rename_i ht
      unfold ghNew at hg'
      rw [if_neg (fun hc => ht hc.1.symm)] at hg'
      exact hI.gens u k2 g L2 hu hg'
  · intro u u' k1 k2 L1 L2 h1 h2 l1 l2 g1 g2 he
    rcases conv h1 g1 with ⟨rfl, rfl, rfl⟩ | ⟨n1, a1, b1⟩ <;> rcases conv h2 g2 with ⟨rfl, rfl, rfl⟩ | ⟨n2, a2, b2⟩
    · rfl
    · rcases hL with hL | hL
      · exact (hI.inj u' u k2 k L2 L a2 hk l2 hlv b2 hG (by omega)).symm
      · have := (hI.low _ _ _ b2).2; omega
    · rcases hL with hL | hL
      · exact hI.inj u u' k1 k L1 L a1 hk l1 hlv b1 hG (by omega)
      · have := (hI.low _ _ _ b1).2; omega
    · exact hI.inj u u' k1 k2 L1 L2 a1 a2 l1 l2 b1 b2 he
  · unfold ghNew at h
    split at h
    · rename_i hc'
      rw [hc'.1]
      exact .inr (hI.dom t k hk)
    · exact hI.newg u g L2 h
  · rw [put_get] at hu
    split at hu
    · rename_i ht
      subst ht
      exact hI.dom t k hk
    · exact hI.dom u k2 hu
  · subst he
    rcases hI.ownb _ hbo with h | h
    · exact h
    · omega
  · rcases hla.own b (.inr hb) with h | h
    · rcases h with h | h
      · exfalso
        have h1 := hI.foreign b h
        obtain ⟨u, k2, L2, e1, e2, e3, e4⟩ := hb
        rcases conv e1 e3 with ⟨rfl, rfl, rfl⟩ | ⟨n1, a1, b1⟩
        · rcases hL with hL | hL
          · exact hI.f_own h ⟨u, k, L, hk, hlv, hG, by omega⟩
          · have := hI.frame.size; omega
        · exact hI.f_own h ⟨u, k2, L2, a1, e2, b1, e4⟩
      · exact hI.ownb b h
    · exact .inr (Nat.le_trans hI.frame.size h)
end
end Go.AM
set_option linter.unusedVariables false
set_option linter.unusedSimpArgs false
namespace Go.AM
open Go.RowKit
variable [Gl]
section
variable {P : Program} {X : Cx} {st : St} {G : Gh} {w : World} {n : Nat} {ρ : Env} {a : Act}
theorem one_rep {own : Nat → Prop} {v : Value} {p : PV} (h : Rep G own w v p) (hp : p.one = true) : v.oneCell' = true := by
  cases h <;> first | rfl | cases hp
def ListRep (G : Gh) (own : Nat → Prop) (w : World) (vs : List Value) (xs : List PV) : Prop := vs.length = xs.length ∧ ∀ (j : Nat) (v : Value) (c : PV), vs[j]? = some v → xs[j]? = some c → Rep G own w v c
theorem CellsRep.list {own : Nat → Prop} {vs : Array Value} {xs : List PV} (h : CellsRep G own w vs xs) : ListRep G own w vs.toList xs := by
  refine ⟨by simpa using h.1, fun j v c hv hc => ?_⟩
  have := h.2 j c hc
  rw [Array.getElem?_toList] at hv
  simpa [Array.getD_eq_getD_getElem?, hv] using this
theorem ListRep.one {own : Nat → Prop} {vs : List Value} {xs : List PV} (h : ListRep G own w vs xs) (hx : xs.all PV.one = true) : ∀ v ∈ vs, v.oneCell' = true := by
  intro v hv
  obtain ⟨j, hj⟩ := List.getElem?_of_mem hv
  have hlt : j < xs.length := by rw [← h.1]; exact (List.getElem?_eq_some_iff.1 hj).1
  have hc := List.getElem?_eq_getElem hlt
  exact one_rep (h.2 j v _ hj hc) ((List.all_eq_true.1 hx) _ (List.getElem_mem hlt))
theorem room_setCells {b o lo hi : Nat} {vs : List Value} (hr : Room w b lo hi) (h : ∀ j, j < vs.length → ∃ v, cellAt w b (o + j) = some v) : Room (w.setCells b o vs) b lo hi := by
  intro q h1 h2
  obtain ⟨⟨v, hv⟩, hf⟩ := hr q h1 h2
  refine ⟨?_, by rw [World.frozen?_setCells]; exact hf⟩
  by_cases hq : o ≤ q ∧ q < o + vs.length
  · exact ⟨_, setCells_in h hq.1 (List.getElem?_eq_getElem (show q - o < vs.length by omega))⟩
  · exact ⟨v, by rw [setCells_out (by omega)]; exact hv⟩
theorem cells_splice {own : Nat → Prop} {b o off : Nat} {cs xs : List PV} {vs : List Value} (hown : own b) (hc : CellsAt G own w b o cs) (hv : ListRep G own w vs xs) (hl : off + xs.length ≤ cs.length) :
    CellsAt G own (w.setCells b (o + off) vs) b o (splice cs off xs) := by
  have hch : Chg (fun i => i = b) w (w.setCells b (o + off) vs) := setCells_chg rfl
  have up : ∀ {v : Value} {p : PV}, Rep G own w v p → Rep G own (w.setCells b (o + off) vs) v p := fun h => h.mono (fun _ _ _ h => h) hch (fun i h => h ▸ hown) (fun _ h => .inl h)
  have hex : ∀ j, j < vs.length → ∃ v, cellAt w b (o + off + j) = some v := by
    intro j hj
    have hj2 : off + j < cs.length := by have := hv.1; omega
    obtain ⟨v, h1, _⟩ := hc _ _ (List.getElem?_eq_getElem hj2)
    exact ⟨v, by rw [← h1]; congr 1; omega⟩
  intro i p hi
  unfold splice at hi
  rw [List.append_assoc, List.getElem?_append] at hi
  have hlt : (cs.take off).length = off := by simp; omega
  rw [hlt] at hi
  split at hi
  · rename_i h1
    rw [List.getElem?_take, if_pos h1] at hi
    obtain ⟨v, e1, e2⟩ := hc i p hi
    exact ⟨v, by rw [setCells_out (by omega)]; exact e1, up e2⟩
  · rename_i h1
    rw [List.getElem?_append] at hi
    split at hi
    · rename_i h2
      have h3 : i - off < vs.length := by have := hv.1; omega
      have hvv := List.getElem?_eq_getElem h3
      refine ⟨_, setCells_in hex (q := o + i) (by omega) (v := vs[i - off]) ?_, up (hv.2 _ _ _ hvv hi)⟩
      rw [show o + i - (o + off) = i - off by omega]
      exact hvv
    · rename_i h2
      rw [List.getElem?_drop] at hi
      obtain ⟨v, e1, e2⟩ := hc _ p hi
      rw [show off + xs.length + (i - off - xs.length) = i by omega] at e1
      exact ⟨v, by rw [setCells_out (by have := hv.1; omega)]; exact e1, up e2⟩
theorem cells_apart {own : Nat → Prop} {b o q : Nat} {cs : List PV} {vs : List Value} (hown : own b) (hc : CellsAt G own w b o cs) (hd : o + cs.length ≤ q ∨ q + vs.length ≤ o) : CellsAt G own (w.setCells b q vs) b o cs := by
  have hch : Chg (fun i => i = b) w (w.setCells b q vs) := setCells_chg rfl
  intro i p hi
  obtain ⟨v, e1, e2⟩ := hc i p hi
  have := (List.getElem?_eq_some_iff.1 hi).1
  exact ⟨v, by rw [setCells_out (by omega)]; exact e1, e2.mono (fun _ _ _ h => h) hch (fun i h => h ▸ hown) (fun _ h => .inl h)⟩
theorem splice_length {cs xs : List PV} {off : Nat} (h : off + xs.length ≤ cs.length) : (splice cs off xs).length = cs.length := by
  unfold splice
  simp
  omega
theorem store_step (hI : Inv X st G w) {v : Value} {p x : PV} (hr : Rep G (OwnF X st G) w v p) {vs : List Value} (hv : ListRep G (OwnF X st G) w vs x.cells) (hone : x.cells.all PV.one = true) {st' : St} (hs : storeAt st p x = some st') :
    ∃ b o w', v = .pointer (some ⟨b, o, none⟩) ∧ (storeCells ⟨b, o, none⟩ vs).run P w = .ok () w' ∧ Inv X st' G w' ∧ Later X st G w st' G w' := by
  unfold storeAt at hs
  split at hs
  · rename_i t off
    split at hs
    · rename_i cs hg
      split at hs
      · rename_i hl
        injection hs with hs
        subst hs
        obtain ⟨L, h1, h2, h3⟩ := hI.toks t _ hg
        cases hr with
        | ptr _ _ L' h' =>
          rw [h1] at h'
          injection h' with h'
          subst h'
          have hown : OwnF X st G L.blk := .inr ⟨t, _, L, hg, rfl, h1, rfl⟩
          have hex : ∀ j, j < vs.length → ∃ v, cellAt w L.blk (L.off + off + j) = some v := fun j hj => by
            have := hv.1
            exact (h2 _ (by omega) (by omega)).1
          have hrun := run_storeCells_cells (P := P) L.blk (L.off + off) vs 0 w (fun j hj => by obtain ⟨u, hu⟩ := hex j hj; simp [cellAt] at hu; simp [hu])
            (fun j hj => by have := hv.1; exact (h2 _ (by omega) (by omega)).2) (hv.one hone)
          obtain ⟨hi, hla⟩ := inv_put hI hg rfl h1 (k' := .var (splice cs off x.cells)) rfl rfl (w' := w.setCells L.blk (L.off + off) vs) (setCells_chg rfl)
            ⟨L, h1, by rw [splice_length hl]; exact room_setCells h2 hex, cells_splice hown h3 hv hl⟩
          exact ⟨L.blk, L.off + off, _, rfl, hrun, hi, hla⟩
      · cases hs
    · cases hs
  · rename_i t g i off
    split at hs
    · rename_i g' sz es hg
      split at hs
      · rename_i hgg
        subst hgg
        split at hs
        · rename_i cs hcs
          split at hs
          · rename_i hl
            injection hs with hs
            subst hs
            obtain ⟨L, h1, h2, h3, h4, h5, h6⟩ := hI.toks t _ hg
            have hilt := (List.getElem?_eq_some_iff.1 hcs).1
            have hcl := (h5 i cs hcs).1
            cases hr with
            | rptr _ _ _ _ L' h' =>
              rw [h1] at h'
              injection h' with h'
              subst h'
              subst h2
              have hown : OwnF X st G L.blk := .inr ⟨t, _, L, hg, rfl, h1, rfl⟩
              have hbd : i * L.sz + cs.length ≤ L.cap * L.sz := by
                have : (i + 1) * L.sz ≤ L.cap * L.sz := Nat.mul_le_mul_right _ (by omega)
                rw [Nat.add_mul] at this
                omega
              have hex : ∀ j, j < vs.length → ∃ v, cellAt w L.blk (L.off + i * L.sz + off + j) = some v := fun j hj => by
                have := hv.1
                exact (h4 _ (by omega) (by omega)).1
              have hrun := run_storeCells_cells (P := P) L.blk (L.off + i * L.sz + off) vs 0 w (fun j hj => by obtain ⟨u, hu⟩ := hex j hj; simp [cellAt] at hu; simp [hu])
                (fun j hj => by have := hv.1; exact (h4 _ (by omega) (by omega)).2) (hv.one hone)
              obtain ⟨hi, hla⟩ := inv_put hI hg rfl h1 (k' := .row g' L.sz (es.set i (splice cs off x.cells)) true) rfl rfl (w' := w.setCells L.blk (L.off + i * L.sz + off) vs) (setCells_chg rfl)
                ⟨L, h1, rfl, by simpa using h3, room_setCells h4 hex, fun j ds hj => by
                  rw [List.getElem?_set] at hj
                  split at hj
                  · rename_i hij
                    subst hij
                    injection hj with hj
                    subst hj
                    exact ⟨by rw [splice_length hl]; exact hcl, cells_splice hown (h5 i cs hcs).2 hv hl⟩
                  · rename_i hij
                    refine ⟨(h5 j ds hj).1, cells_apart hown (h5 j ds hj).2 ?_⟩
                    have hdl := (h5 j ds hj).1
                    have := hv.1
                    rcases Nat.lt_or_gt_of_ne hij with hlt | hlt
                    · right
                      have : (i + 1) * L.sz ≤ j * L.sz := Nat.mul_le_mul_right _ hlt
                      rw [Nat.add_mul] at this
                      omega
                    · left
                      have : (j + 1) * L.sz ≤ i * L.sz := Nat.mul_le_mul_right _ hlt
                      rw [Nat.add_mul] at this
                      omega, by simp⟩
              exact ⟨L.blk, L.off + i * L.sz + off, _, rfl, hrun, hi, hla⟩
          · cases hs
        · cases hs
      · cases hs
    · cases hs
  · cases hs
def cStore (P : Program) (t : TypeId) (x y : Operand) : Option PI :=
  match tyOf P t, cOpd x, cOpd y with
  | some (_, i), some x', some y' => some (.store i.size x' y')
  | _, _, _ => none
theorem l_store (hI : Inv X st G w) (hE : EnvRep G (OwnF X st G) w n ρ a) {o : Oper} {t : TypeId} {x y : Operand} (ho : o.op = .store t x y) {pi : PI} (hc : cStore P t x y = some pi) {p : PV} {st' : St} (hq : loud st (Opd.ev ρ) pi = some (p, st')) : LOk P X st G w o a p st' := by
  unfold cStore at hc
  split at hc
  · rename_i d i x' y' hT hx hy
    injection hc with hc
    subst hc
    simp only [loud] at hq
    split at hq
    · rename_i hcond
      obtain ⟨hone, hlen, hpos⟩ := hcond
      obtain ⟨st1, hs, he⟩ := Option.map_eq_some_iff.1 hq
      simp only [Prod.mk.injEq] at he
      obtain ⟨rfl, rfl⟩ := he
      have hry := opd_rep hE hy
      have hnj : y'.ev ρ ≠ .junk := by
        intro e
        rw [e] at hone
        simp [PV.cells, PV.one] at hone
      have hcells : CellsRep G (OwnF X st G) w (a.eval y).cells (y'.ev ρ).cells := rep_cells hry hnj
      obtain ⟨b, ob, w', hv, hrun, hi, hla⟩ := store_step (P := P) hI (opd_rep hE hx) hcells.list hone hs
      refine ⟨.skip, undef, w', G, ?_, rfl, hi, hla, .tuple [] #[] rfl (fun i c h => by simp at h)⟩
      have hsz : (a.eval y).cells.size = i.size := by rw [hcells.1, hlen]
      have hstore : (storeVar t ⟨b, ob, none⟩ (a.eval y)).run P w = .ok () w' := by
        unfold storeVar
        rw [Sem.run_bind, run_sizeOf hT, Result.andThen_ok]
        rw [if_neg (by omega)]
        simpa using hrun
      simp only [execOp, ho, Instr.storeAt, Instr.sureAddr, hv]
      simp [hstore]
    · cases hq
  · cases hc
theorem cellAt_push {c : Array Value} {ty : TypeId} {fr : Nat × Nat} {w' : World} (hw : w'.heap[w.heap.size]? = some (.cells c ty fr)) (q : Nat) : cellAt w' w.heap.size q = c[q]? := by
  simp [cellAt, World.cell?, hw]
theorem alloc_new (w : World) (c : Array Value) (ty : TypeId) : (w.alloc (.cells c ty)).heap[w.heap.size]? = some (.cells c ty (0, 0)) := heap_alloc_new w _
theorem alloc_below (w : World) (o : Obj) : Below w.heap.size w (w.alloc o) := (Below.refl _ _).alloc (Nat.le_refl _) o
theorem alloc_size (w : World) (o : Obj) : (w.alloc o).heap.size = w.heap.size + 1 := by simp
theorem new_var (hI : Inv X st G w) {c : Array Value} {cs : List PV} (hc : CellsRep G (OwnF X st G) w c cs) (ty : TypeId) :
    ∃ G', Inv X (st.new (.var cs)) G' (w.alloc (.cells c ty)) ∧ Later X st G w (st.new (.var cs)) G' (w.alloc (.cells c ty)) ∧ Rep G' (OwnF X (st.new (.var cs)) G') (w.alloc (.cells c ty)) (.pointer (some ⟨w.heap.size, 0, none⟩)) (.ptr st.next 0) := by
  let L : Loc := ⟨w.heap.size, 0, 0, 0⟩
  have hb := alloc_below w (.cells c ty)
  have hnew := alloc_new w c ty
  have hla : Later X st G w (st.new (.var cs)) (ghNew G st.next 0 L) (w.alloc (.cells c ty)) := later_new hI hb (k := .var cs) (L := L) rfl
  refine ⟨ghNew G st.next 0 L, inv_new hI hb (by rw [alloc_size]; omega) (k := .var cs) (L := L) rfl rfl ?_, hla, ?_⟩
  · refine ⟨L, ghNew_same _ _ _ _, fun q h1 h2 => ?_, fun i p hi => ?_⟩
    · have hq : q < c.size := by have := hc.1; simp only [L] at h2; omega
      refine ⟨⟨c[q], by rw [cellAt_push hnew]; exact Array.getElem?_eq_getElem hq⟩, ?_⟩
      simp only [L, World.frozen?, hnew]
      simp
    · have hlt : i < c.size := by rw [hc.1]; exact (List.getElem?_eq_some_iff.1 hi).1
      refine ⟨c[i], ?_, ?_⟩
      · simp only [L, Nat.zero_add]
        rw [cellAt_push hnew]
        exact Array.getElem?_eq_getElem hlt
      · have := hc.2 i p hi
        rw [Array.getD_eq_getD_getElem?, Array.getElem?_eq_getElem hlt] at this
        exact hla.rep this
  · have := Rep.ptr (G := ghNew G st.next 0 L) (own := OwnF X (st.new (.var cs)) (ghNew G st.next 0 L)) (w := w.alloc (.cells c ty)) st.next 0 L (ghNew_same _ _ _ _)
    simpa [L] using this
theorem l_alloc (hI : Inv X st G w) {o : Oper} {t : TypeId} (ho : o.op = .alloc t) {zs : List PV} (hz : zeroOf P t = some zs) : LOk P X st G w o a (.ptr st.next 0) (st.new (.var zs)) := by
  obtain ⟨z, hzr, hzc⟩ := zeroOf_spec (G := G) (own := OwnF X st G) (w := w) hz
  obtain ⟨G', h1, h2, h3⟩ := new_var hI hzc t
  refine ⟨.value (.pointer (some ⟨w.heap.size, 0, none⟩)), _, _, G', ?_, rfl, h1, h2, h3⟩
  simp only [execOp, ho, Instr.alloc]
  simp only [Sem.run_bind, hzr, Result.andThen_ok, newVar, newRow, run_newObj, Sem.run_pure]
  rfl
theorem l_box (hI : Inv X st G w) (hE : EnvRep G (OwnF X st G) w n ρ a) {o : Oper} {t : TypeId} {x : Operand} (ho : o.op = .box t x) {y : Opd} (hy : cOpd x = some y) (hj : (y.ev ρ).isJunk = false) : LOk P X st G w o a (.ptr st.next 0) (st.new (.var (y.ev ρ).cells)) := by
  obtain ⟨G', h1, h2, h3⟩ := new_var hI (rep_cells (opd_rep hE hy) (junk_ne hj)) t
  refine ⟨.value (.pointer (some ⟨w.heap.size, 0, none⟩)), _, _, G', ?_, rfl, h1, h2, h3⟩
  simp only [execOp, ho, Instr.box]
  simp only [Sem.run_bind, Result.andThen_ok, newVar, newRow, run_newObj, Sem.run_pure]
  rfl
theorem flatten_get {sz : Nat} : ∀ {es : List (List PV)}, allOf sz es = true → es.flatten.length = es.length * sz ∧ ∀ (j i : Nat), i < sz → es.flatten[j * sz + i]? = (es[j]?).bind (·[i]?)
  | [], _ => ⟨by simp, fun j i h => by simp⟩
  | e :: r, h => by
    simp only [allOf, List.all_cons, Bool.and_eq_true, beq_iff_eq] at h
    obtain ⟨h1, h2⟩ := h
    obtain ⟨k1, k2⟩ := flatten_get (es := r) h2
    refine ⟨by simp [k1, h1, Nat.add_mul]; omega, fun j i hi => ?_⟩
    rw [List.flatten_cons, List.getElem?_append]
    cases j with
    | zero => rw [if_pos (by omega)]; simp
    | succ j =>
      rw [if_neg (by rw [Nat.add_mul]; omega), h1, show (j + 1) * sz + i - sz = j * sz + i by rw [Nat.add_mul]; omega, k2 j i hi]
      simp
theorem new_row (hI : Inv X st G w) {w' : World} {c : Array Value} {ty : TypeId} {fr : Nat × Nat} (hb : Below w.heap.size w w') (hsz : w.heap.size < w'.heap.size) (hnew : w'.heap[w.heap.size]? = some (.cells c ty fr))
    {es : List (List PV)} {sz cap : Nat} (hall : allOf sz es = true) (hcap : es.length ≤ cap) (hc : c.size = cap * sz) (hfr : ∀ q, q < cap * sz → ¬ (fr.1 ≤ q ∧ q < fr.2))
    (hcells : ∀ (j i : Nat) (cs : List PV) (p : PV), es[j]? = some cs → cs[i]? = some p → Rep G (OwnF X st G) w (c.getD (j * sz + i) undef) p) {len : Nat} (hlen : len = es.length) :
    ∃ G', Inv X (st.new (.row 0 sz es true)) G' w' ∧ Later X st G w (st.new (.row 0 sz es true)) G' w' ∧ Rep G' (OwnF X (st.new (.row 0 sz es true)) G') w' (.slice (some ⟨w.heap.size, 0, none⟩) len cap) (.osl st.next 0 0 len false) := by
  subst hlen
  let L : Loc := ⟨w.heap.size, 0, cap, sz⟩
  have hla : Later X st G w (st.new (.row 0 sz es true)) (ghNew G st.next 0 L) w' := later_new hI hb (k := .row 0 sz es true) (L := L) rfl
  refine ⟨ghNew G st.next 0 L, inv_new hI hb hsz (k := .row 0 sz es true) (L := L) rfl rfl ?_, hla, ?_⟩
  · refine ⟨L, ghNew_same _ _ _ _, rfl, hcap, fun q h1 h2 => ?_, fun j cs hj => ⟨allOf_spec hall hj, fun i p hi => ?_⟩, by simp⟩
    · simp only [L, Nat.zero_add] at h2
      have hq : q < c.size := by omega
      refine ⟨⟨c[q], by rw [cellAt_push hnew]; exact Array.getElem?_eq_getElem hq⟩, ?_⟩
      simp only [L, World.frozen?, hnew]
      have := hfr q h2
      simpa using this
    · have hcl := allOf_spec hall hj
      have hil : i < sz := by rw [← hcl]; exact (List.getElem?_eq_some_iff.1 hi).1
      have hjl : j < es.length := (List.getElem?_eq_some_iff.1 hj).1
      have hlt : j * sz + i < c.size := by
        have := mul_lt_of hjl hil
        have : es.length * sz ≤ cap * sz := Nat.mul_le_mul_right _ hcap
        omega
      refine ⟨c[j * sz + i], ?_, ?_⟩
      · simp only [L, Nat.zero_add]
        rw [cellAt_push hnew]
        exact Array.getElem?_eq_getElem hlt
      · have := hcells j i cs p hj hi
        rw [Array.getD_eq_getD_getElem?, Array.getElem?_eq_getElem hlt] at this
        exact hla.rep this
  · exact .osl st.next 0 0 es.length false L cap _ (ghNew_same _ _ _ _) hcap (by simp [L]) (by simp) (fun _ => by simp [L]) rfl
theorem new_imm (hI : Inv X st G w) {w' : World} {c : Array Value} {ty : TypeId} {fr : Nat × Nat} (hb : Below w.heap.size w w') (hnew : w'.heap[w.heap.size]? = some (.cells c ty fr))
    {es : List (List PV)} {sz cap : Nat} {full : Bool} (hall : allOf sz es = true) (hcap : es.length ≤ cap) (hfull : full = true → cap = es.length) (hc : es.length * sz ≤ c.size)
    (hcells : ∀ (j i : Nat) (cs : List PV) (p : PV), es[j]? = some cs → cs[i]? = some p → Rep G (OwnF X st G) w (c.getD (j * sz + i) undef) p) {len : Nat} (hlen : len = es.length) :
    Rep G (OwnF X st G) w' (.slice (some ⟨w.heap.size, 0, none⟩) len cap) (.sl es full) := by
  subst hlen
  have hla := (inv_below hI hb).2
  refine .sl es full w.heap.size 0 cap sz ⟨w.heap.size, 0, none⟩ (fun j i => c.getD (j * sz + i) undef) hcap hfull (fun _ => rfl) (fun j cs hj => allOf_spec hall hj) (fun j cs i p hj hi => ⟨?_, fun ho => by have := own_lt_size hI ho; omega⟩) (fun j cs i p hj hi => hla.rep (hcells j i cs p hj hi))
  have hcl := allOf_spec hall hj
  have hil : i < sz := by rw [← hcl]; exact (List.getElem?_eq_some_iff.1 hi).1
  have hjl : j < es.length := (List.getElem?_eq_some_iff.1 hj).1
  have hlt : j * sz + i < c.size := by
    have := mul_lt_of hjl hil
    omega
  rw [Nat.zero_add, cellAt_push hnew, Array.getD_eq_getD_getElem?, Array.getElem?_eq_getElem hlt]
  rfl
end
end Go.AM
set_option linter.unusedVariables false
set_option linter.unusedSimpArgs false
namespace Go.AM
open Go.RowKit
variable [Gl]
section
variable {P : Program} {X : Cx} {st : St} {G : Gh} {w : World} {n : Nat} {ρ : Env} {a : Act}
def zerosOf (z : Array Value) (m : Nat) : Array Value := (Array.range m).map (z[· % z.size]!)
theorem zerosOf_size (z : Array Value) (m : Nat) : (zerosOf z m).size = m := by simp [zerosOf]
theorem zerosOf_rep {own : Nat → Prop} {z : Array Value} {zs : List PV} (h : CellsRep G own w z zs) {sz : Nat} (hs : zs.length = sz) (hp : 0 < sz) (m : Nat) {j i : Nat} {p : PV} (hj : j * sz + i < m) (hi : zs[i]? = some p) : Rep G own w ((zerosOf z m).getD (j * sz + i) undef) p := by
  have hlt : i < sz := by rw [← hs]; exact (List.getElem?_eq_some_iff.1 hi).1
  have hmod : (j * sz + i) % z.size = i := by rw [h.1, hs, Nat.mul_comm, Nat.mul_add_mod, Nat.mod_eq_of_lt hlt]
  have hiz : i < z.size := by rw [h.1, hs]; exact hlt
  have := h.2 i p hi
  rw [Array.getD_eq_getD_getElem?, Array.getElem?_eq_getElem hiz] at this
  have e : (zerosOf z m).getD (j * sz + i) undef = z[i] := by
    rw [Array.getD_eq_getD_getElem?]
    simp [zerosOf, hj, hmod, hiz]
  rw [e]
  exact this
theorem okEls_all {sz : Nat} {es : List (List PV)} (h : okEls sz es = true) : allOf sz es = true ∧ es.flatten.all PV.one = true := by
  simp only [okEls, List.all_eq_true, Bool.and_eq_true, beq_iff_eq] at h
  refine ⟨List.all_eq_true.2 fun cs hcs => by simpa using (h cs hcs).1, List.all_eq_true.2 fun p hp => ?_⟩
  obtain ⟨cs, h1, h2⟩ := List.mem_flatten.1 hp
  exact (h cs h1).2 p h2
theorem cells_flat {own : Nat → Prop} {c : Array Value} {es : List (List PV)} {sz : Nat} (hall : allOf sz es = true) (hs : es.length * sz ≤ c.size)
    (h : ∀ (j i : Nat) (cs : List PV) (p : PV), es[j]? = some cs → cs[i]? = some p → Rep G own w (c.getD (j * sz + i) undef) p) (q : Nat) (p : PV) (hq : es.flatten[q]? = some p) : Rep G own w (c.getD q undef) p := by
  obtain ⟨hl, hg⟩ := flatten_get hall
  have hql : q < es.length * sz := by rw [← hl]; exact (List.getElem?_eq_some_iff.1 hq).1
  have hsz : 0 < sz := by
    rcases Nat.eq_zero_or_pos sz with h0 | h0
    · subst h0; simp at hql
    · exact h0
  have e : q / sz * sz + q % sz = q := by rw [Nat.mul_comm]; exact Nat.div_add_mod q sz
  rw [← e, hg _ _ (Nat.mod_lt _ hsz)] at hq
  obtain ⟨cs, h1, h2⟩ := Option.bind_eq_some_iff.1 hq
  have := h _ _ _ _ h1 h2
  rwa [e] at this
theorem flat_cells {own : Nat → Prop} {c : Array Value} {es : List (List PV)} {sz : Nat} (hall : allOf sz es = true) (h : CellsRep G own w c es.flatten) {j i : Nat} {cs : List PV} {p : PV} (hj : es[j]? = some cs) (hi : cs[i]? = some p) : Rep G own w (c.getD (j * sz + i) undef) p := by
  obtain ⟨hl, hg⟩ := flatten_get hall
  have hil : i < sz := by rw [← allOf_spec hall hj]; exact (List.getElem?_eq_some_iff.1 hi).1
  exact h.2 _ _ (by rw [hg _ _ hil, hj]; exact hi)
theorem fillElems_flat {sz : Nat} : ∀ (qs : List (Nat × PV)) (es out : List (List PV)), allOf sz es = true → fillElems sz es qs = some out → fillParts es.flatten (qs.map fun q => (q.1 * sz, sz, q.2)) = some out.flatten ∧ allOf sz out = true ∧ out.length = es.length
  | [], es, out, ha, h => by injection h with h; subst h; exact ⟨rfl, ha, rfl⟩
  | (k, x) :: qs, es, out, ha, h => by
    simp only [fillElems] at h
    split at h
    · rename_i hc
      obtain ⟨h1, h2, h3⟩ := hc
      have ha' : allOf sz (es.set k x.cells) = true := by
        refine List.all_eq_true.2 fun cs hcs => ?_
        rcases List.mem_or_eq_of_mem_set hcs with h4 | h4
        · exact (List.all_eq_true.1 ha) cs h4
        · subst h4; simpa using h2
      obtain ⟨k1, k2, k3⟩ := fillElems_flat qs _ out ha' h
      obtain ⟨hl, hg⟩ := flatten_get ha
      obtain ⟨hl', hg'⟩ := flatten_get ha'
      have hbd : k * sz + sz ≤ es.length * sz := by
        have : (k + 1) * sz ≤ es.length * sz := Nat.mul_le_mul_right _ h3
        rw [Nat.add_mul] at this
        omega
      have hset : es.flatten.take (k * sz) ++ x.cells ++ es.flatten.drop (k * sz + sz) = (es.set k x.cells).flatten := by
        apply List.ext_getElem?
        intro q
        rcases Nat.eq_zero_or_pos sz with h0 | hsz
        · subst h0
          have e1 : es.flatten = [] := List.eq_nil_of_length_eq_zero (by rw [hl]; simp)
          have e2 : (es.set k x.cells).flatten = [] := List.eq_nil_of_length_eq_zero (by rw [hl']; simp)
          have e3 : x.cells = [] := List.eq_nil_of_length_eq_zero h2
          rw [e2]
          simp [e1, e3]
        have e : q / sz * sz + q % sz = q := by rw [Nat.mul_comm]; exact Nat.div_add_mod q sz
        have hmod := Nat.mod_lt q hsz
        rw [show (es.set k x.cells).flatten[q]? = ((es.set k x.cells)[q / sz]?).bind (·[q % sz]?) by rw [← hg' _ _ hmod, e]]
        rw [List.append_assoc, List.getElem?_append]
        have hlt : (es.flatten.take (k * sz)).length = k * sz := by rw [List.length_take, hl]; omega
        rw [hlt]
        by_cases c1 : q < k * sz
        · rw [if_pos c1, List.getElem?_take, if_pos c1]
          have hqk : q / sz < k := (Nat.div_lt_iff_lt_mul hsz).2 c1
          rw [List.getElem?_set, if_neg (by omega), ← hg _ _ hmod, e]
        · rw [if_neg c1, List.getElem?_append]
          by_cases c2 : q - k * sz < x.cells.length
          · rw [if_pos c2]
            have hqk : q / sz = k := by
              apply Nat.div_eq_of_lt_le
              · omega
              · rw [Nat.add_mul]; omega
            rw [List.getElem?_set, if_pos hqk.symm]
            simp only [hqk, h3, if_true, Option.bind_some]
            rw [hqk] at e
            congr 1
            omega
          · rw [if_neg c2, List.getElem?_drop]
            have hqk : k < q / sz := by
              rw [Nat.lt_iff_add_one_le, Nat.le_div_iff_mul_le hsz, Nat.add_mul]
              omega
            rw [List.getElem?_set, if_neg (by omega), ← hg _ _ hmod, e]
            congr 1
            omega
      refine ⟨?_, k2, by simpa using k3⟩
      simp only [List.map_cons, fillParts]
      rw [if_pos ⟨h1, h2, by rw [hl]; exact hbd⟩, hset]
      exact k1
    · cases h
def cBuildSl (P : Program) (t : TypeId) (len : Nat) (parts : List (Nat × Operand)) : Option PI :=
  match P.underlying t with
  | some (.slice e) => match tyOf P e, zeroOf P e with
    | some (_, i), some zs => if zs.length = i.size ∧ 0 < i.size ∧ len * i.size ≤ 16777216 then
        (cParts (fun j => some (j * i.size, i.size)) parts).map fun qs => .buildSl i.size (List.replicate len zs) (qs.map fun q => (q.1 / i.size, q.2.2)) else none
    | _, _ => none
  | _ => none
theorem parts_places {place : Nat → Option (Nat × Nat)} : ∀ {ps : List (Nat × Operand)} {qs : List (Nat × Nat × Opd)}, cParts place ps = some qs → ∀ q ∈ qs, ∃ i, place i = some (q.1, q.2.1)
  | [], qs, h => by injection h with h; subst h; intro q hq; cases hq
  | (i0, x) :: ps, qs, h => by
    simp only [cParts] at h
    split at h
    · rename_i off0 k0 y ys h1 h2 h3
      injection h with h
      subst h
      intro q hq
      rcases List.mem_cons.1 hq with rfl | hq
      · exact ⟨i0, h1⟩
      · exact parts_places h3 q hq
    · cases h
theorem run_buildSl (hI : Inv X st G w) (hE : EnvRep G (OwnF X st G) w n ρ a) {o : Oper} {t : TypeId} {len : Nat} {parts : Array (Nat × Operand)} (ho : o.op = .buildSlice t len parts) {sz : Nat} {zero : List (List PV)} {ps : List (Nat × Opd)} (hc : cBuildSl P t len parts.toList = some (.buildSl sz zero ps)) {es : List (List PV)}
    (hes : fillElems sz zero (ps.map fun p => (p.1, p.2.ev ρ)) = some es) : ∃ c e, (execOp a.eval o).run P w = .ok (.value (.slice (some ⟨w.heap.size, 0, none⟩) len len)) (w.alloc (.cells c e)) ∧ allOf sz es = true ∧ es.length = len ∧ CellsRep G (OwnF X st G) w c es.flatten := by
  have hpl : (parts.map fun (i, x) => (i, a.eval x)).toList = parts.toList.map fun (p : Nat × Operand) => (p.1, a.eval p.2) := by simp
  unfold cBuildSl at hc
  split at hc
  · rename_i e hU
    split at hc
    · rename_i d i zs hT hz
      split at hc
      · rename_i hcond
        obtain ⟨hzl, hpos, hlen⟩ := hcond
        obtain ⟨qs, hqs, he⟩ := Option.map_eq_some_iff.1 hc
        injection he with e1 e2 e3
        subst e1 e2 e3
        obtain ⟨z, hzr, hzc⟩ := zeroOf_spec (G := G) (own := OwnF X st G) (w := w) hz
        have hall0 : allOf i.size (List.replicate len zs) = true := List.all_eq_true.2 fun cs hcs => by rw [List.eq_of_mem_replicate hcs]; simpa using hzl
        have hq : (qs.map fun q => (q.1 / i.size, q.2.2)).map (fun p => (p.1, p.2.ev ρ)) = qs.map fun q => (q.1 / i.size, q.2.2.ev ρ) := by simp
        rw [hq] at hes
        obtain ⟨f1, f2, f3⟩ := fillElems_flat _ _ _ hall0 hes
        have hpp : (qs.map fun q => (q.1 / i.size, q.2.2.ev ρ)).map (fun q => (q.1 * i.size, i.size, q.2)) = qs.map fun p => (p.1, p.2.1, p.2.2.ev ρ) := by
          rw [List.map_map]
          apply List.map_congr_left
          intro q hq
          obtain ⟨j, hj⟩ := parts_places hqs q hq
          injection hj with hj
          simp only [Prod.mk.injEq] at hj
          obtain ⟨hj1, hj2⟩ := hj
          simp only [Function.comp]
          rw [← hj1, Nat.mul_div_cancel _ hpos, hj2]
        rw [hpp] at f1
        obtain ⟨g1, g2⟩ := parts_rep hE hqs
        have hz0 : CellsRep G (OwnF X st G) w (zerosOf z.cells (len * i.size)) (List.replicate len zs).flatten := by
          refine ⟨by rw [zerosOf_size, (flatten_get hall0).1]; simp, fun q p hq => ?_⟩
          refine cells_flat hall0 (by rw [zerosOf_size]; simp) (fun j k cs p hj hk => ?_) q p hq
          have hcs : cs = zs := List.eq_of_mem_replicate (List.mem_of_getElem? hj)
          subst hcs
          have hjl : j < len := by simpa using (List.getElem?_eq_some_iff.1 hj).1
          have hkl : k < i.size := by rw [← hzl]; exact (List.getElem?_eq_some_iff.1 hk).1
          exact zerosOf_rep hzc hzl hpos _ (mul_lt_of hjl hkl) hk
        obtain ⟨cells', hf, hr⟩ := fill_rep (place := fun j => some (j * i.size, i.size)) _ _ _ _ _ g1 g2 hz0 f1
        refine ⟨cells', e, ?_, f2, by simpa using f3, hr⟩
        simp only [execOp, ho, Instr.buildSlice]
        rw [Sem.run_bind, Sem.run_bind, run_underlying hU, Result.andThen_ok]
        simp only
        rw [Sem.run_bind, run_sizeOf hT, Result.andThen_ok]
        rw [if_neg (by omega)]
        by_cases h0 : len * i.size = 0
        · have hl0 : len = 0 := by
            rcases Nat.mul_eq_zero.1 h0 with h | h
            · exact h
            · omega
          subst hl0
          simp only [Nat.zero_mul, if_true, zerosOf] at hf ⊢
          simp only [hpl]
          have hf' : Instr.fill (fun i_1 => some (i_1 * i.size, i.size)) (Array.map (fun x => (#[] : Array Value)[x % (#[] : Array Value).size]!) (Array.range 0)) (parts.toList.map fun (p : Nat × Operand) => (p.1, a.eval p.2)) = some cells' := by
            have e0 : ∀ f : Nat → Value, Array.map f (Array.range 0) = #[] := fun f => by simp
            rw [e0] at hf ⊢
            exact hf
          simp only [Sem.run_bind, Sem.run_pure, Result.andThen_ok]
          rw [hf']
          simp [newRow]
        · rw [if_neg h0]
          simp only [Sem.run_bind, hzr, Result.andThen_ok, Sem.run_pure, hpl]
          unfold zerosOf at hf
          rw [hf]
          simp [newRow]
      · cases hc
    · cases hc
  · cases hc
theorem q_buildSl (hI : Inv X st G w) (hE : EnvRep G (OwnF X st G) w n ρ a) {o : Oper} {t : TypeId} {len : Nat} {parts : Array (Nat × Operand)} (ho : o.op = .buildSlice t len parts) {sz : Nat} {zero : List (List PV)} {ps : List (Nat × Opd)} (hc : cBuildSl P t len parts.toList = some (.buildSl sz zero ps)) {es : List (List PV)}
    (hes : fillElems sz zero (ps.map fun p => (p.1, p.2.ev ρ)) = some es) : QOk P X st G w o a (.sl es true) := by
  obtain ⟨c, e, hrun, hall, hl, hr⟩ := run_buildSl (P := P) hI hE ho hc hes
  refine ⟨_, _, hrun, alloc_below _ _, new_imm hI (alloc_below _ _) (alloc_new w c e) hall (by omega) (fun _ => hl.symm) (by rw [hr.1, (flatten_get hall).1]; exact Nat.le_refl _) (fun j i cs p hj hi => flat_cells hall hr hj hi) hl.symm⟩
theorem l_buildSl (hI : Inv X st G w) (hE : EnvRep G (OwnF X st G) w n ρ a) {o : Oper} {t : TypeId} {len : Nat} {parts : Array (Nat × Operand)} (ho : o.op = .buildSlice t len parts) {sz : Nat} {zero : List (List PV)} {ps : List (Nat × Opd)} (hc : cBuildSl P t len parts.toList = some (.buildSl sz zero ps)) {es : List (List PV)}
    (hes : fillElems sz zero (ps.map fun p => (p.1, p.2.ev ρ)) = some es) : LOk P X st G w o a (.osl st.next 0 0 es.length false) (st.new (.row 0 sz es true)) := by
  obtain ⟨c, e, hrun, hall, hl, hr⟩ := run_buildSl (P := P) hI hE ho hc hes
  obtain ⟨G', h1, h2, h3⟩ := new_row hI (alloc_below w (.cells c e)) (by rw [alloc_size]; omega) (alloc_new w c e) hall (Nat.le_of_eq hl) (by rw [hr.1, (flatten_get hall).1, hl]) (fun q hq => by simp) (fun j i cs p hj hi => flat_cells hall hr hj hi) (len := len) hl.symm
  refine ⟨_, _, _, G', hrun, rfl, h1, h2, ?_⟩
  rw [hl]
  exact h3
theorem roomInt : ((roomLen : Nat) : Int) = 140737488355328 := rfl
def cMakeSl (P : Program) (t : TypeId) (l c : Operand) : Option PI :=
  match P.underlying t with
  | some (.slice e) => match tyOf P e, zeroOf P e, cOpd l, cOpd c with
    | some (_, i), some zs, some l', some c' => if zs.length = i.size ∧ 0 < i.size ∧ 0 < i.bytes then some (.makeSl i.size zs i.bytes l' c') else none
    | _, _, _, _ => none
  | _ => none
theorem l_makeSl (hI : Inv X st G w) (hE : EnvRep G (OwnF X st G) w n ρ a) {o : Oper} {t : TypeId} {l c : Operand} (ho : o.op = .makeSlice t l c) {pi : PI} (hc : cMakeSl P t l c = some pi) {p : PV} {st' : St} (hq : loud st (Opd.ev ρ) pi = some (p, st')) : LOk P X st G w o a p st' := by
  unfold cMakeSl at hc
  split at hc
  · rename_i e hU
    split at hc
    · rename_i d i zs l' c' hT hz hl hcc
      split at hc
      · rename_i hcond
        obtain ⟨hzl, hpos, hby⟩ := hcond
        injection hc with hc
        subst hc
        simp only [loud] at hq
        split at hq
        · rename_i k1 li k2 ci hle hce
          have rl := opd_rep hE hl
          have rc := opd_rep hE hcc
          rw [hle] at rl
          rw [hce] at rc
          have hl1 := rep_int rl
          have hc1 := rep_int rc
          split at hq
          · rename_i hb
            obtain ⟨_, h0, h1, h2⟩ := hb
            injection hq with hq
            simp only [Prod.mk.injEq] at hq
            obtain ⟨rfl, rfl⟩ := hq
            obtain ⟨z, hzr, hzc⟩ := zeroOf_spec (G := G) (own := OwnF X st G) (w := w) hz
            have hcb : ci ≤ 140737488355328 := by
              have : ci * 1 ≤ ci * (i.bytes : Int) := Int.mul_le_mul_of_nonneg_left (by omega) (by omega)
              rw [roomInt] at h2
              omega
            have hall : allOf i.size (List.replicate li.toNat zs) = true := List.all_eq_true.2 fun cs hcs => by rw [List.eq_of_mem_replicate hcs]; simpa using hzl
            obtain ⟨G', e1, e2, e3⟩ := new_row hI (es := List.replicate li.toNat zs) (sz := i.size) (cap := ci.toNat) (alloc_below w (.cells (zerosOf z.cells (ci.toNat * i.size)) e)) (by rw [alloc_size]; omega) (alloc_new w _ e) hall (by simp; omega) (by rw [zerosOf_size]) (fun q hq => by simp)
              (fun j k cs p hj hk => by
                have hcs : cs = zs := List.eq_of_mem_replicate (List.mem_of_getElem? hj)
                subst hcs
                have hjl : j < li.toNat := by simpa using (List.getElem?_eq_some_iff.1 hj).1
                have hkl : k < i.size := by rw [← hzl]; exact (List.getElem?_eq_some_iff.1 hk).1
                exact zerosOf_rep hzc hzl hpos _ (mul_lt_of (by omega) hkl) hk) (len := li.toNat) (by simp)
            refine ⟨.value (.slice (some ⟨w.heap.size, 0, none⟩) li.toNat ci.toNat), _, _, G', ?_, rfl, e1, e2, e3⟩
            have hw64 : ∀ x : Int, 0 ≤ x → x ≤ 140737488355328 → IntKind.i64.wrap x = x := by
              intro x hx1 hx2
              have e : IntKind.i64.wrap x = if (true && decide (x % 18446744073709551616 ≥ 9223372036854775808)) = true then x % 18446744073709551616 - 18446744073709551616 else x % 18446744073709551616 := rfl
              rw [e, Int.emod_eq_of_lt hx1 (by omega), if_neg (by simp; omega)]
            have hbi : (i.bytes : Int) * ci ≤ 281474976710656 := by
              rw [roomInt] at h2
              rw [Int.mul_comm]
              omega
            have hbl : (i.bytes : Int) * li ≤ 281474976710656 := Int.le_trans (Int.mul_le_mul_of_nonneg_left h1 (by omega)) hbi
            simp only [execOp, ho, Instr.makeSlice, hl1, hc1]
            simp only [Sem.run_bind, run_underlying hU, Result.andThen_ok, asInt, asIntOf, Sem.run_pure, typeInfo, run_program, (tyOf_spec hT).2, hw64 li h0 (by omega), hw64 ci (by omega) hcb]
            have p48 : (2 : Int) ^ 48 = 281474976710656 := by decide
            have t1 : (decide (ci < 0) || decide ((i.bytes : Int) * ci > 2 ^ 48) || decide (li < 0) || decide (li > ci)) = false := by
              rw [decide_eq_false (show ¬ ci < 0 by omega), decide_eq_false (show ¬ (i.bytes : Int) * ci > 2 ^ 48 by omega), decide_eq_false (show ¬ li < 0 by omega), decide_eq_false (show ¬ li > ci by omega)]
              rfl
            rw [t1]
            simp only [Bool.false_eq_true, if_false, Sem.run_bind, Sem.run_pure, Result.andThen_ok, run_askRoom, run_sizeOf hT]
            have hempty : ∀ z : Array Value, ci.toNat * i.size = 0 → Array.map (fun x => z[x % z.size]!) (Array.range (ci.toNat * i.size)) = zerosOf z (ci.toNat * i.size) := fun z h => rfl
            by_cases hz0 : ci.toNat * i.size = 0
            · have e0 : ∀ f : Nat → Value, Array.map f (Array.range 0) = #[] := fun f => by simp
              simp only [hz0, if_true, Sem.run_bind, Sem.run_pure, Result.andThen_ok, newRow, run_newObj, e0, zerosOf]
              rfl
            · rw [if_neg hz0]
              simp only [Sem.run_bind, hzr, Sem.run_pure, Result.andThen_ok, newRow, run_newObj, zerosOf]
              rfl
          · cases hq
        · cases hq
      · cases hc
    · cases hc
  · cases hc
end
end Go.AM
set_option linter.unusedVariables false
set_option linter.unusedSimpArgs false
namespace Go.AM
open Go.RowKit
variable [Gl]
section
variable {P : Program} {X : Cx} {st : St} {G : Gh} {w : World} {n : Nat} {ρ : Env} {a : Act}
def SrcRun (P : Program) (own : Nat → Prop) (G : Gh) (w : World) (v : Value) (src : List (List PV)) (sz : Nat) : Prop :=
  (Builtin.lenOf v).run P w = .ok src.length w ∧ ∀ m, m ≤ src.length → ∃ us : Array Value, (∀ w' : World, Below w.heap.size w w' → (Builtin.firstCells sz m v).run P w' = .ok us w') ∧ us.size = m * sz ∧ ∀ (j : Nat) (cs : List PV) (i : Nat) (c : PV), j < m → src[j]? = some cs → cs[i]? = some c → Rep G own w (us.getD (j * sz + i) undef) c
theorem src_slice (hI : Inv X st G w) {v : Value} {q : PV} (hr : Rep G (OwnF X st G) w v q) {src : List (List PV)} (he : elemsOf st.get q = some src) {sz : Nat} (hall : allOf sz src = true) : SrcRun P (OwnF X st G) G w v src sz := by
  obtain ⟨ad, cap, hv, hh⟩ := elems_rep hI hr he hall
  subst hv
  exact ⟨rfl, fun m hm => run_firstCells hall hh m hm⟩
theorem src_run (hI : Inv X st G w) {v : Value} {p : PV} (hr : Rep G (OwnF X st G) w v p) {src : List (List PV)} (hs : srcOf st p = some src) {sz : Nat} (hall : allOf sz src = true) : SrcRun P (OwnF X st G) G w v src sz := by
  unfold srcOf at hs
  split at hs
  · rename_i s
    injection hs with hs
    subst hs
    have hv := rep_str hr
    subst hv
    have hl : (byteCells s).length = s.length := by simp [byteCells]
    have hsz : (⟨s.toArray⟩ : ByteArray).size = s.length := by simp [ByteArray.size]
    refine ⟨by simp [Builtin.lenOf, hsz, hl], fun m hm => ?_⟩
    rw [hl] at hm
    have hex : ((⟨s.toArray⟩ : ByteArray).extract 0 m).data = (s.take m).toArray := by
      rw [ByteArray.data_extract]
      simp [List.extract_eq_take_drop]
    refine ⟨_, fun w' _ => rfl, ?_, fun j cs i c hj hcs hi => ?_⟩
    · rw [hex]
      rcases Nat.eq_zero_or_pos m with h0 | h0
      · subst h0; simp
      · have h1 : sz = 1 := by
          have h0s : 0 < (byteCells s).length := by omega
          have hb := List.getElem?_eq_getElem h0s
          have h2 := allOf_spec hall hb
          have h3 : ((byteCells s)[0]).length = 1 := by simp [byteCells]
          omega
        subst h1
        simp; omega
    · have h1 : sz = 1 := by
        have := allOf_spec hall hcs
        simp only [byteCells, List.getElem?_map] at hcs
        obtain ⟨q, _, rfl⟩ := Option.map_eq_some_iff.1 hcs
        simpa using this.symm
      subst h1
      simp only [byteCells, List.getElem?_map] at hcs
      obtain ⟨q, hq, rfl⟩ := Option.map_eq_some_iff.1 hcs
      have hi0 : i = 0 := by
        have := (List.getElem?_eq_some_iff.1 hi).1
        simp at this
        exact this
      subst hi0
      simp at hi
      subst hi
      have : ((((⟨s.toArray⟩ : ByteArray).extract 0 m).data.map fun b => Value.int .u8 b.toNat)).getD (j * 1 + 0) undef = .int .u8 q.toNat := by
        rw [hex, Array.getD_eq_getD_getElem?]
        simp [hj, hq]
      rw [this]
      exact .int _ _
  · exact src_slice hI hr hs hall
theorem flat_src {own : Nat → Prop} {us : Array Value} {src : List (List PV)} {sz : Nat} (hall : allOf sz src = true) (hs : us.size = src.length * sz)
    (h : ∀ (j : Nat) (cs : List PV) (i : Nat) (c : PV), j < src.length → src[j]? = some cs → cs[i]? = some c → Rep G own w (us.getD (j * sz + i) undef) c) : CellsRep G own w us src.flatten :=
  ⟨by rw [hs, (flatten_get hall).1], fun q p hq => cells_flat hall (by rw [hs]; exact Nat.le_refl _) (fun j i cs p hj hi => h j cs i p (List.getElem?_eq_some_iff.1 hj).1 hj hi) q p hq⟩
def sliceOrText : TypeDesc → Bool
  | .slice _ | .string => true
  | _ => false
structure AppTy (P : Program) (t t' : TypeId) (e : TypeId) (d : TypeDesc) (i : TypeInfo) (z : Value) : Prop where
  ht : P.underlying t = some (.slice e)
  ht' : ∃ d', P.underlying t' = some d' ∧ sliceOrText d' = true
  he : tyOf P e = some (d, i)
  hz : ∀ w' : World, (zeroValue e).run P w' = .ok z w'
  hzs : z.cells.size = i.size
  hb : 0 < i.bytes
theorem run_append_in {t t' e : TypeId} {d : TypeDesc} {i : TypeInfo} {z : Value} (hT : AppTy P t t' e d i z) {base : Option Addr} {sLen sCap : Nat} {xv : Value} {m : Nat} {us : Array Value} (hlen : (Builtin.lenOf xv).run P w = .ok m w) (hus : (Builtin.firstCells i.size m xv).run P w = .ok us w) (hroom : sLen + m ≤ sCap) {w' : World}
    (hst : (match base with | some a => storeCells (a.add (sLen * i.size)) us.toList | none => pure ()).run P w = .ok () w') (ty : TypeId) :
    (Builtin.append_ #[t, t'] ty #[.slice base sLen sCap, xv]).run P w = .ok (.slice base (sLen + m) sCap) w' := by
  obtain ⟨d', hd', hk⟩ := hT.ht'
  have hint : (match d' with | .int _ => true | _ => false) = false := by cases d' <;> simp [sliceOrText] at hk <;> rfl
  unfold Builtin.append_
  simp only [List.getElem?_toArray, List.getElem?_cons_zero, List.getElem?_cons_succ, Sem.run_bind, run_underlying hT.ht, Result.andThen_ok, run_sizeOf hT.he]
  cases d' <;> simp [sliceOrText] at hk
  all_goals
    simp only [Sem.run_bind, run_underlying hd', Result.andThen_ok, Sem.run_pure, Bool.false_eq_true, if_false, hlen, Bool.not_false, if_true, hroom, hus]
    cases base with
    | none => simp only [Sem.run_pure, Result.ok.injEq, true_and] at hst; subst hst; rfl
    | some ad => simp only [Sem.run_bind, hst, Result.andThen_ok, Sem.run_pure]
theorem run_append_new {t t' e : TypeId} {d : TypeDesc} {i : TypeInfo} {z : Value} (hT : AppTy P t t' e d i z) {base : Option Addr} {sLen sCap : Nat} {xv : Value} {m : Nat} {us old : Array Value} (hlen : (Builtin.lenOf xv).run P w = .ok m w) (hus : ∀ w' : World, Below w.heap.size w w' → (Builtin.firstCells i.size m xv).run P w' = .ok us w') (hold : ∀ w' : World, Below w.heap.size w w' → (Builtin.firstCells i.size sLen (.slice base sLen sCap)).run P w' = .ok old w')
    (hroom : sCap < sLen + m) (hbig : (sLen + m) * i.bytes ≤ roomLen) (ty : TypeId) :
    ∃ cap w', sLen + m ≤ cap ∧ (Builtin.append_ #[t, t'] ty #[.slice base sLen sCap, xv]).run P w = .ok (.slice (some ⟨w.heap.size, 0, none⟩) (sLen + m) cap) w' ∧ Below w.heap.size w w' ∧ w.heap.size < w'.heap.size ∧
      w'.heap[w.heap.size]? = some (.cells (old ++ us ++ Builtin.zeroCells z.cells (cap - (sLen + m))) e (0, 0)) := by
  obtain ⟨d', hd', hk⟩ := hT.ht'
  have hsmall : sLen + m ≤ 140737488355328 := by
    have : (sLen + m) * 1 ≤ (sLen + m) * i.bytes := Nat.mul_le_mul_left _ hT.hb
    simp only [roomLen] at hbig
    omega
  have hfit := growslice_fits (need := sLen + m) (old := sCap) (bytes := i.bytes) hroom hbig
  have hd : Below w.heap.size w w.drew := (Below.refl _ _).drew
  refine ⟨grownCap w (sLen + m) sCap e, (w.drew).alloc (.cells (old ++ us ++ Builtin.zeroCells z.cells (grownCap w (sLen + m) sCap e - (sLen + m))) e), grownCap_ge _ _ _ _, ?_, hd.alloc (Nat.le_refl _) _, by simp, heap_alloc_new w.drew _⟩
  unfold Builtin.append_
  simp only [List.getElem?_toArray, List.getElem?_cons_zero, List.getElem?_cons_succ, Sem.run_bind, run_underlying hT.ht, Result.andThen_ok, run_sizeOf hT.he]
  have c1 : ¬ sLen + m ≤ sCap := by omega
  have c2 : ¬ (((sLen + m : Nat) : Int) > IntKind.i64.max) := by
    have : IntKind.i64.max = 9223372036854775807 := rfl
    rw [this]
    omega
  have c3 : ¬ Builtin.nextslicecap (sLen + m) sCap * i.bytes > 2 ^ 48 := by
    have : (2 : Nat) ^ 48 = 281474976710656 := by decide
    omega
  have hinfo : (P.info? e) = some i := (tyOf_spec hT.he).2
  have hchoose : (choose (.appendCap (sLen + m) sCap e)).run P w = .ok (grownCap w (sLen + m) sCap e) w.drew := by
    rw [run_choose]
    rfl
  have hu := hus w.drew hd
  have ho := hold w.drew hd
  cases d' <;> simp [sliceOrText] at hk
  all_goals
    simp only [Sem.run_bind, run_underlying hd', Result.andThen_ok, Sem.run_pure, Bool.false_eq_true, if_false, hlen, Bool.not_false, if_true, c1, typeInfo, run_program, hinfo, c2, false_and, c3, hchoose, run_askRoom, ho, hu, hT.hz, newRow, run_newObj]
    rfl
end
end Go.AM
