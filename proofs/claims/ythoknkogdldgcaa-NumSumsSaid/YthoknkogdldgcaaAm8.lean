/- AM8: what a slice holds; conversions; lengths; structs put together. -/
import Derived.Test.YthoknkogdldgcaaAm7
import Derived.Lib.ConvBytes
import Derived.Laws.BytesArg
set_option linter.unusedVariables false
set_option linter.unusedSimpArgs false
namespace Go.AM
open Go.RowKit

section
variable {P : Program} {X : Cx} {st : St} {G : Gh} {w : World} {n : Nat} {ρ : Env} {a : Act}

theorem mul_lt_of {j len sz i : Nat} (hj : j < len) (hi : i < sz) : j * sz + i < len * sz := by
  have h1 : (j + 1) * sz ≤ len * sz := Nat.mul_le_mul_right _ hj
  rw [Nat.add_mul] at h1
  omega
theorem allOf_spec {sz : Nat} {es : List (List PV)} (h : allOf sz es = true) {j : Nat} {cs : List PV} (hj : es[j]? = some cs) : cs.length = sz := by
  have := (List.all_eq_true.1 h) cs (List.mem_of_getElem? hj)
  simpa using this

/-- What a slice that is read holds. -/
theorem elems_rep (hI : Inv X st G w) {v : Value} {p : PV} (hr : Rep G (OwnF X st G) w v p) {es : List (List PV)} (he : elemsOf st.get p = some es) {sz : Nat} (hall : allOf sz es = true) :
    ∃ ad cap, v = .slice ad es.length cap ∧ (es = [] ∨ ∃ b o, ad = some ⟨b, o, none⟩ ∧ ∀ (j : Nat) (cs : List PV), es[j]? = some cs → CellsAt G (OwnF X st G) w b (o + j * sz) cs) := by
  cases hr with
  | nilSl => injection he with he; subst he; exact ⟨none, 0, rfl, .inl rfl⟩
  | sl xs full b o cap sz' adr u hcap hfull hadr hsz hc hr' =>
    injection he with he
    subst he
    refine ⟨_, cap, rfl, ?_⟩
    by_cases h0 : xs = []
    · exact .inl h0
    have hpos : 0 < xs.length := List.length_pos_iff.2 h0
    refine .inr ⟨b, o, by rw [hadr (by omega)], fun j cs hj i c hi => ?_⟩
    have h1 := hsz _ _ hj
    have h2 := allOf_spec hall hj
    have : sz' = sz := by omega
    subst this
    exact ⟨_, (hc _ _ _ _ hj hi).1, hr' _ _ _ _ hj hi⟩
  | osl t g off len full L cap ad hG hcap hL hfull ha =>
    simp only [elemsOf] at he
    split at he
    · rename_i g' sz' es' lv hg
      split at he
      · rename_i hc
        obtain ⟨rfl, hlen⟩ := hc
        injection he with he
        have hel : es.length = len := by rw [← he]; simp; omega
        rw [← hel]
        refine ⟨some ad, cap, rfl, ?_⟩
        by_cases h0 : es = []
        · exact .inl h0
        · have hpos : 0 < len := by
            rw [← hel]
            exact List.length_pos_iff.2 h0
          have := ha (by omega)
          subst this
          obtain ⟨L', h1, h2, h3, h4, h5, h6⟩ := hI.toks t _ hg
          rw [h1] at hG
          injection hG with hG
          subst hG
          have hsz : sz' = sz := by
            obtain ⟨c0, hj⟩ : ∃ c0, es[0]? = some c0 := ⟨_, List.getElem?_eq_getElem (by omega)⟩
            have k1 := allOf_spec hall hj
            rw [← he, List.getElem?_take, if_pos hpos, List.getElem?_drop] at hj
            have k2 := (h5 _ _ hj).1
            omega
          subst hsz
          refine .inr ⟨L'.blk, L'.off + off * L'.sz, rfl, fun j cs hj => ?_⟩
          rw [← he, List.getElem?_take] at hj
          split at hj
          · rw [List.getElem?_drop] at hj
            have := (h5 _ _ hj).2
            rw [h2, Nat.add_assoc, ← Nat.add_mul]
            exact this
          · cases hj
      · cases he
    · cases he
  | vsl t off sz' len L cap ad hG hcap ha =>
    simp only [elemsOf] at he
    split at he
    · rename_i cs hg
      split at he
      · rename_i hc
        injection he with he
        have hel : es.length = len := by rw [← he]; simp
        rw [← hel]
        refine ⟨some ad, cap, rfl, ?_⟩
        by_cases h0 : es = []
        · exact .inl h0
        · have hpos : 0 < len := by
            rw [← hel]
            exact List.length_pos_iff.2 h0
          have := ha (by omega)
          subst this
          obtain ⟨L', h1, h2, h3⟩ := hI.toks t _ hg
          rw [h1] at hG
          injection hG with hG
          subst hG
          have hel2 : ∀ (j : Nat) (ds : List PV), es[j]? = some ds → j < len ∧ ds = (cs.drop (off + j * sz')).take sz' := by
            intro j ds hj
            rw [← he, List.getElem?_map] at hj
            obtain ⟨q, hq, rfl⟩ := Option.map_eq_some_iff.1 hj
            have := List.getElem?_eq_some_iff.1 hq
            obtain ⟨hlt, hq'⟩ := this
            simp at hlt hq'
            subst hq'
            exact ⟨hlt, rfl⟩
          have hsz : sz' = sz := by
            have hj : es[0]? = some es[0] := List.getElem?_eq_getElem (by omega)
            have k1 := allOf_spec hall hj
            have k2 := (hel2 _ _ hj).2
            rw [k2] at k1
            simp at k1
            have : 1 * sz' ≤ len * sz' := Nat.mul_le_mul_right _ hpos
            omega
          subst hsz
          refine .inr ⟨L'.blk, L'.off + off, rfl, fun j ds hj i c hi => ?_⟩
          obtain ⟨k1, k2⟩ := hel2 _ _ hj
          rw [k2, List.getElem?_take] at hi
          split at hi
          · rw [List.getElem?_drop] at hi
            obtain ⟨u, hu1, hu2⟩ := h3 _ _ hi
            exact ⟨u, by rw [← hu1]; congr 1; omega, hu2⟩
          · cases hi
      · cases he
    · cases he
  | _ => cases he

/-- Loading them. -/
theorem run_firstCells {own : Nat → Prop} {es : List (List PV)} {sz : Nat} (hall : allOf sz es = true) {ad : Option Addr} {cap : Nat}
    (h : es = [] ∨ ∃ b o, ad = some ⟨b, o, none⟩ ∧ ∀ (j : Nat) (cs : List PV), es[j]? = some cs → CellsAt G own w b (o + j * sz) cs) (m : Nat) (hm : m ≤ es.length) :
    ∃ us : Array Value, (∀ w' : World, Below w.heap.size w w' → (Builtin.firstCells sz m (.slice ad es.length cap)).run P w' = .ok us w') ∧ us.size = m * sz ∧ ∀ (j : Nat) (cs : List PV) (i : Nat) (c : PV), j < m → es[j]? = some cs → cs[i]? = some c → Rep G own w (us.getD (j * sz + i) undef) c := by
  rcases h with rfl | ⟨b, o, rfl, hc⟩
  · have : m = 0 := by simpa using hm
    subst this
    refine ⟨#[], fun w' _ => ?_, by simp, fun j cs i c hj => by omega⟩
    cases ad with
    | none => rfl
    | some a => simp [Builtin.firstCells, loadCells, loadCellsFrom]
  · have hv : ∀ q, ∃ v, q < m * sz → cellAt w b (o + q) = some v ∧ ∀ (j : Nat) (cs : List PV) (i : Nat) (c : PV), q = j * sz + i → es[j]? = some cs → cs[i]? = some c → Rep G own w v c := by
      intro q
      by_cases hq : q < m * sz
      · have hsz : 0 < sz := by
          rcases Nat.eq_zero_or_pos sz with h0 | h0
          · subst h0; simp at hq
          · exact h0
        have hj : q / sz < es.length := by
          have : q / sz < m := (Nat.div_lt_iff_lt_mul hsz).2 hq
          omega
        have hcs := List.getElem?_eq_getElem hj
        have hl := allOf_spec hall hcs
        have hi : q % sz < (es[q / sz]).length := by rw [hl]; exact Nat.mod_lt _ hsz
        have hqq : q / sz * sz + q % sz = q := by rw [Nat.mul_comm]; exact Nat.div_add_mod q sz
        obtain ⟨v, h1, h2⟩ := hc _ _ hcs _ _ (List.getElem?_eq_getElem hi)
        rw [Nat.add_assoc, hqq] at h1
        refine ⟨v, fun _ => ⟨h1, fun j cs i c he hj' hi' => ?_⟩⟩
        have hi2 : i < sz := by
          have := allOf_spec hall hj'
          have := (List.getElem?_eq_some_iff.1 hi').1
          omega
        have hjq : j = q / sz := by
          rw [he, Nat.mul_comm, Nat.mul_add_div hsz, Nat.div_eq_of_lt hi2]; rfl
        have hiq : i = q % sz := by
          rw [he, Nat.mul_comm, Nat.mul_add_mod, Nat.mod_eq_of_lt hi2]
        subst hjq
        rw [hcs] at hj'
        injection hj' with hj'
        subst hj'
        subst hiq
        rw [List.getElem?_eq_getElem hi] at hi'
        injection hi' with hi'
        subst hi'
        exact h2
      · exact ⟨undef, fun h => absurd h hq⟩
    obtain ⟨f, hf⟩ := Classical.axiomOfChoice hv
    refine ⟨((List.range (m * sz)).map f).toArray, fun w' hb' => ?_, by simp, fun j cs i c hj hcs hi => ?_⟩
    · simp only [Builtin.firstCells]
      rw [run_loadCells w' _ _ f (fun j hj => by rw [add_at, hb'.cell (cellAt_lt (hf j hj).1)]; exact (hf j hj).1)]
    · have hi2 : i < sz := by
        have := allOf_spec hall hcs
        have := (List.getElem?_eq_some_iff.1 hi).1
        omega
      have hlt : j * sz + i < m * sz := mul_lt_of hj hi2
      have := (hf _ hlt).2 j cs i c rfl hcs hi
      simpa [hlt] using this

theorem bytesOf?_spec : ∀ {es : List (List PV)} {bs : List UInt8}, bytesOf? es = some bs → es.length = bs.length ∧ ∀ (j : Nat) (cs : List PV), es[j]? = some cs → ∃ m : Int, cs = [.int .u8 m] ∧ bs[j]? = some (UInt8.ofNat m.toNat)
  | [], bs, h => by injection h with h; subst h; exact ⟨rfl, fun j cs hj => by simp at hj⟩
  | e :: r, bs, h => by
    unfold bytesOf? at h
    split at h
    · rename_i he; cases he
    · rename_i m r' he
      injection he with he1 he2
      subst he1 he2
      obtain ⟨bs', hb, rfl⟩ := Option.map_eq_some_iff.1 h
      obtain ⟨h1, h2⟩ := bytesOf?_spec hb
      refine ⟨by simp [h1], fun j cs hj => ?_⟩
      cases j with
      | zero => simp at hj; subst hj; exact ⟨m, rfl, by simp⟩
      | succ j => simpa using h2 j cs (by simpa using hj)
    · cases h

theorem q_toStr (hI : Inv X st G w) (hE : EnvRep G (OwnF X st G) w n ρ a) {o : Oper} {s t e : TypeId} {x : Operand} (ho : o.op = .convert s t x) (hs : P.underlying s = some (.slice e)) (he : P.underlying e = some (.int .u8)) (ht : P.underlying t = some .string) {y : Opd} (hy : cOpd x = some y) {es : List (List PV)} {bs : List UInt8}
    (hes : elemsOf st.get (y.ev ρ) = some es) (hb : bytesOf? es = some bs) : QOk P X st G w o a (.str bs) := by
  obtain ⟨hl, hcell⟩ := bytesOf?_spec hb
  have hall : allOf 1 es = true := by
    refine List.all_eq_true.2 fun cs hcs => ?_
    obtain ⟨j, hj⟩ := List.getElem?_of_mem hcs
    obtain ⟨m, rfl, _⟩ := hcell j cs hj
    rfl
  obtain ⟨ad, cap, hv, hrep⟩ := elems_rep hI (opd_rep hE hy) hes hall
  refine qok_same ?_ (.str bs)
  simp only [execOp, ho, hv]
  rcases hrep with rfl | ⟨b, ob, rfl, hc⟩
  · have hbs : bs = [] := by cases bs with
      | nil => rfl
      | cons x r => simp at hl
    subst hbs
    cases ad with
    | none => simp [run_convert_bytes_nil w s e hs he 0 cap t ht]; rfl
    | some ad =>
      simp [convert, run_underlying hs, run_underlying ht, run_underlying he, Conv.bytesToString, loadCells, loadCellsFrom]
      rfl
  · have hx : ∀ j, ∃ m : Int, j < es.length → es[j]? = some [.int .u8 m] ∧ bs[j]? = some (UInt8.ofNat m.toNat) := by
      intro j
      by_cases hj : j < es.length
      · obtain ⟨m, h1, h2⟩ := hcell j _ (List.getElem?_eq_getElem hj)
        exact ⟨m, fun _ => ⟨by rw [List.getElem?_eq_getElem hj, h1], h2⟩⟩
      · exact ⟨0, fun h => absurd h hj⟩
    obtain ⟨f, hf⟩ := Classical.axiomOfChoice hx
    have := run_convert_bytes_arg (P := P) w s e hs he b ob es.length cap ((List.range es.length).map f) (by simp) (fun i hi => by
      obtain ⟨u, h1, h2⟩ := hc i _ (hf i hi).1 0 _ rfl
      have h3 := rep_int h2
      subst h3
      have h4 : cellAt w b (ob + i) = some (.int .u8 (f i)) := by rw [← h1]; congr 1; omega
      simpa [cellAt, hi] using h4) t ht
    rw [Sem.run_bind, this]
    simp only [Result.andThen_ok, Sem.run_pure]
    congr 2
    unfold strOfNums
    have : bs = ((List.range es.length).map f).map fun q => UInt8.ofNat q.toNat := by
      apply List.ext_getElem?
      intro i
      by_cases hi : i < es.length
      · rw [(hf i hi).2]; simp [hi]
      · rw [List.getElem?_eq_none (by omega), List.getElem?_eq_none (by simp; omega)]
    rw [this]

theorem bytesWorld_below (w : World) (e : TypeId) (s : ByteArray) : Below w.heap.size w (Lib.bytesWorld w e s) :=
  ⟨rfl, rfl, rfl, by rw [Lib.bytesWorld_size]; omega, fun k hk => Lib.bytesWorld_at_old w e s k hk⟩

theorem q_toBytes (hI : Inv X st G w) (hE : EnvRep G (OwnF X st G) w n ρ a) {o : Oper} {s t e : TypeId} {x : Operand} (ho : o.op = .convert s t x) {d : TypeDesc} (hs : P.underlying s = some d) (ht : P.underlying t = some (.slice e)) (he : P.underlying e = some (.int .u8)) {y : Opd} (hy : cOpd x = some y) {bs : List UInt8}
    (hb : y.ev ρ = .str bs) : QOk P X st G w o a (.sl (byteCells bs) false) := by
  have hr := opd_rep hE hy
  rw [hb] at hr
  have hv := rep_str hr
  have hsz : (⟨bs.toArray⟩ : ByteArray).size = bs.length := by simp [ByteArray.size]
  refine ⟨.slice (some ⟨w.heap.size, 0, none⟩) (⟨bs.toArray⟩ : ByteArray).size (grownCap w (⟨bs.toArray⟩ : ByteArray).size 0 e), Lib.bytesWorld w e ⟨bs.toArray⟩, ?_, bytesWorld_below w e _, ?_⟩
  · simp only [execOp, ho, hv]
    rw [Sem.run_bind, Lib.run_convert_string_bytes w s t e _ hs ht he]
    rfl
  · have hge := grownCap_ge w (⟨bs.toArray⟩ : ByteArray).size 0 e
    have hnew : ∀ b, OwnF X st G b → b < w.heap.size := by
      intro b hb
      rcases hb with hb | ⟨t', k, L, h1, h2, h3, h4⟩
      · exact Nat.lt_of_lt_of_le (hI.foreign b hb).1 hI.frame.size
      · have := (hI.low _ _ _ h3).2; omega
    have := Rep.sl (G := G) (own := OwnF X st G) (w := Lib.bytesWorld w e ⟨bs.toArray⟩) (byteCells bs) false w.heap.size 0 (grownCap w (⟨bs.toArray⟩ : ByteArray).size 0 e) 1 ⟨w.heap.size, 0, none⟩ (fun j _ => .int .u8 (bs.getD j 0).toNat)
      (by simpa [byteCells, hsz] using hge) (by simp) (fun _ => rfl) (fun j cs hj => by
        simp only [byteCells, List.getElem?_map] at hj
        obtain ⟨q, _, rfl⟩ := Option.map_eq_some_iff.1 hj
        rfl)
      (fun j cs i c hj hi => by
        simp only [byteCells, List.getElem?_map] at hj
        obtain ⟨q, hq, rfl⟩ := Option.map_eq_some_iff.1 hj
        have hlt := (List.getElem?_eq_some_iff.1 hq).1
        have hi0 : i = 0 := by
          have := (List.getElem?_eq_some_iff.1 hi).1
          simp at this
          exact this
        subst hi0
        refine ⟨?_, fun ho => by have := hnew _ ho; omega⟩
        have := Lib.bytesWorld_cell w e ⟨bs.toArray⟩ j (by simpa [hsz] using hlt)
        simpa [cellAt] using this)
      (fun j cs i c hj hi => by
        simp only [byteCells, List.getElem?_map] at hj
        obtain ⟨q, hq, rfl⟩ := Option.map_eq_some_iff.1 hj
        have hi0 : i = 0 := by
          have := (List.getElem?_eq_some_iff.1 hi).1
          simp at this
          exact this
        subst hi0
        simp at hi
        subst hi
        have : bs.getD j 0 = q := by simp [List.getD_eq_getElem?_getD, hq]
        rw [this]
        exact .int _ _)
    have hbl : (byteCells bs).length = (⟨bs.toArray⟩ : ByteArray).size := by simp [byteCells, hsz]
    rw [hbl] at this
    exact this

/-! ### Lengths -/
theorem len_rep {own : Nat → Prop} {v : Value} {p : PV} (h : Rep G own w v p) {m : Nat} (hm : lenOf p = some m) : (∃ ad cap, v = .slice ad m cap) ∨ ∃ s : ByteArray, v = .string s ∧ s.size = m := by
  cases h with
  | str s => injection hm with hm; exact .inr ⟨_, rfl, by simpa [ByteArray.size] using hm⟩
  | nilSl => injection hm with hm; subst hm; exact .inl ⟨_, _, rfl⟩
  | sl xs full b o cap sz adr u hcap hfull hadr hsz hc hr => injection hm with hm; subst hm; exact .inl ⟨_, _, rfl⟩
  | osl t g off len full L cap a h hcap hL hfull ha => injection hm with hm; subst hm; exact .inl ⟨_, _, rfl⟩
  | vsl t off sz len L cap a h hcap ha => injection hm with hm; subst hm; exact .inl ⟨_, _, rfl⟩
  | _ => cases hm
end
end Go.AM
