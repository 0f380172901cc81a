/- The abstract machine: AM32: entries without a Go body: bytes compared, found, counted. · AM33: a place of a row of one's own, read and written. · AM34: rows that are made and copied into. · AM35: bytes appended to a row of one's own, whatever its place; a variable written whole; the slice of an array. · AM36: calls that are handed what is one's own: what they leave alone. · AM37: a variable of one's own, read in a drawn region with one loud operation. · AM38: readings of byte slices. · AM39: drawn regions with two loud operations, the later of which looks at what the first answers: the steps. · AM40: steps whose answer is said otherwise. · AM41: a call that is handed what is one's own, which is no longer changed behind it. · AM42: calls and ends whose plain values need no word. · AM43: loops told by lists of temporaries. · AM44: entries without a body, over texts: where a byte stands, how often. · AM45: drawn regions with two stores that do not look at one another: the steps. · AM46: lists by a relation; loops whose turns leave nothing behind. · AM47: readings of lists, by a bound that goes down to all parts. · AM48: readings of lists, with what their parts weigh together. · AM49: bytes of one's own, or a literal's, that are appended to; calls that hand them on. -/
import Derived.Test.YtinojffgmgjblaaGreatDoorAmE
import Derived.Lib.Bytealg
import Derived.Lib.BytesEntry
set_option linter.unusedSectionVars false
set_option linter.unusedVariables false
set_option linter.unusedSimpArgs false
namespace Go.AM
open Go.RowKit
section
variable [Gl]
theorem arr2 {vals : Array Value} (h : vals.size = 2) : vals = #[vals.getD 0 undef, vals.getD 1 undef] := by
  apply Array.ext
  · simp [h]
  · intro i h1 h2
    have : i = 0 ∨ i = 1 := by omega
    rcases this with rfl | rfl <;> simp [h]
theorem bytesNum : ∀ s : List UInt8, Lib.bytesOf (s.map fun b => (b.toNat : Int)) = s
  | [] => rfl
  | c :: s => by
    have := bytesNum s
    simp only [Lib.bytesOf, List.map_cons] at this ⊢
    rw [this]
    simp
theorem bytesOf_bv {P : Program} {F : Nat → Prop} {w : World} {v : Value} {p : PV} {s : List UInt8} (hr : Rep noG F w v p) (hb : BV p s) : (Extern.Bytes.bytesOf v).run P w = .ok ⟨s.toArray⟩ w := by
  cases hb with
  | nil => cases hr; rfl
  | sl s full =>
    cases hr with
    | sl xs full b o cap sz adr u hcap hfull hadr hsz hc hr =>
      simp only [Extern.Bytes.bytesOf]
      cases s with
      | nil => rfl
      | cons c s =>
        have hcap0 : 0 < cap := by simp [byteCells] at hcap; omega
        obtain rfl := hadr hcap0
        have hsz1 : sz = 1 := (hsz 0 [.int .u8 c.toNat] (by simp [byteCells])).symm
        subst hsz1
        have hl := Lib.run_loadBytesX (P := P) (w := w) ((c :: s).map fun b => (b.toNat : Int)) ⟨b, o, none⟩ .empty (fun j x hj => by
          rw [List.getElem?_map] at hj
          obtain ⟨y, hy, rfl⟩ := Option.map_eq_some_iff.1 hj
          have hcs : (byteCells (c :: s))[j]? = some [.int .u8 y.toNat] := by simp only [byteCells, List.getElem?_map, hy, Option.map_some]
          obtain ⟨h1, _⟩ := hc j _ 0 _ hcs rfl
          have h2 := rep_int (hr j _ 0 _ hcs rfl)
          rw [h2] at h1
          rw [← h1]
          simp only [cellAt, Addr.add]
          split
          · rename_i h0; subst h0; simp
          · simp)
        have h3 : ((c :: s).map fun b => (b.toNat : Int)).length = (byteCells (c :: s)).length := by simp [byteCells]
        rw [h3] at hl
        rw [hl]
        congr 2
        have := bytesNum (c :: s)
        rw [this]
        simp [ByteArray.empty, ByteArray.emptyWithCapacity]
        try rfl
theorem bytesOf_str {P : Program} {F : Nat → Prop} {w : World} {v : Value} {s : List UInt8} (hr : Rep noG F w v (.str s)) : (Extern.Bytes.bytesOf v).run P w = .ok ⟨s.toArray⟩ w := by
  rw [rep_str hr]
  rfl
section
variable {P : Program} {f : Nat} {fn : Func} (hf : P.funcs[f]? = some fn) (hname : (fn.name == "runtime.NumGoroutine") = false) (hb : fn.body.isNone = true) (hn : Extern.findNext fn = none)
include hf hname hb hn
theorem ext_compareB (he : Extern.find fn = some Extern.BytealgCompare.compare) {p q : PV} {a b : List UInt8} (hp : BV p a) (hq : BV q b) : SemExt P f [p, q] (.int .i64 (Lib.compareBytes a b)) := by
  intro F w vals hs hr
  have e := arr2 (by simpa using hs)
  have h0 := bytesOf_bv (P := P) (hr 0 p rfl) hp
  have h1 := bytesOf_bv (P := P) (hr 1 q rfl) hq
  refine ⟨_, w, ?_, .refl _ _, .int _ _⟩
  rw [run_callFunc_extern hf hname hb hn he, e]
  change Result.andThen (Sem.run P (do pure (goInt (Extern.BytealgCompare.cmp (← Extern.Bytes.bytesOf (vals.getD 0 undef)) (← Extern.Bytes.bytesOf (vals.getD 1 undef))))) w) _ = _
  simp only [Sem.run_bind, h0, h1, Result.andThen_ok, Sem.run_pure, Lib.cmp_eq]
  rfl
theorem ext_compareS (he : Extern.find fn = some Extern.BytealgCompare.compare) (a b : List UInt8) : SemExt P f [.str a, .str b] (.int .i64 (Lib.compareBytes a b)) := by
  intro F w vals hs hr
  have e := arr2 (by simpa using hs)
  have h0 := bytesOf_str (P := P) (hr 0 _ rfl)
  have h1 := bytesOf_str (P := P) (hr 1 _ rfl)
  refine ⟨_, w, ?_, .refl _ _, .int _ _⟩
  rw [run_callFunc_extern hf hname hb hn he, e]
  change Result.andThen (Sem.run P (do pure (goInt (Extern.BytealgCompare.cmp (← Extern.Bytes.bytesOf (vals.getD 0 undef)) (← Extern.Bytes.bytesOf (vals.getD 1 undef))))) w) _ = _
  simp only [Sem.run_bind, h0, h1, Result.andThen_ok, Sem.run_pure, Lib.cmp_eq]
  rfl
theorem ext_indexB (he : Extern.find fn = some Extern.BytealgIndexByte.indexByte) {p : PV} {a : List UInt8} (c : Int) (hp : BV p a) : SemExt P f [p, .int .u8 c] (.int .i64 (Lib.indexByte a c.toNat.toUInt8)) := by
  intro F w vals hs hr
  have e := arr2 (by simpa using hs)
  have h0 := bytesOf_bv (P := P) (hr 0 p rfl) hp
  have h1 := rep_int (hr 1 _ rfl)
  refine ⟨_, w, ?_, .refl _ _, .int _ _⟩
  rw [run_callFunc_extern hf hname hb hn he, e, h1]
  have h2 := Lib.run_indexByteString (P := P) ⟨a.toArray⟩ c w
  have h3 : (Extern.BytealgIndexByte.indexByte #[vals.getD 0 undef, .int .u8 c]).run P w = (Extern.BytealgIndexByte.indexByte #[.string ⟨a.toArray⟩, .int .u8 c]).run P w := by
    change Sem.run P (do
      let b ← Extern.Bytes.bytesOf (vals.getD 0 undef)
      let c ← Extern.Bytes.asByte (.int .u8 c)
      match (List.range b.size).find? fun i => b[i]! == c with
      | some i => pure (goInt i)
      | none => pure (goInt (-1))) w = Sem.run P (do
      let b ← Extern.Bytes.bytesOf (.string ⟨a.toArray⟩)
      let c ← Extern.Bytes.asByte (.int .u8 c)
      match (List.range b.size).find? fun i => b[i]! == c with
      | some i => pure (goInt i)
      | none => pure (goInt (-1))) w
    rw [Sem.run_bind, Sem.run_bind, h0]
    rfl
  rw [h3, h2]
  rfl
theorem ext_countB (he : Extern.find fn = some Extern.BytealgCount.count) {p : PV} {a : List UInt8} (c : Int) (hp : BV p a) : SemExt P f [p, .int .u8 c] (.int .i64 (a.count c.toNat.toUInt8 : Nat)) := by
  intro F w vals hs hr
  have e := arr2 (by simpa using hs)
  have h0 := bytesOf_bv (P := P) (hr 0 p rfl) hp
  have h1 := rep_int (hr 1 _ rfl)
  refine ⟨_, w, ?_, .refl _ _, .int _ _⟩
  rw [run_callFunc_extern hf hname hb hn he, e, h1]
  have h2 := Lib.run_countString (P := P) ⟨a.toArray⟩ c w
  have h3 : (Extern.BytealgCount.count #[vals.getD 0 undef, .int .u8 c]).run P w = (Extern.BytealgCount.count #[.string ⟨a.toArray⟩, .int .u8 c]).run P w := by
    change Sem.run P (do
      let b ← Extern.Bytes.bytesOf (vals.getD 0 undef)
      let c ← Extern.Bytes.asByte (.int .u8 c)
      pure (goInt (b.foldl (fun n x => if x == c then n + 1 else n) (0 : Nat)))) w = Sem.run P (do
      let b ← Extern.Bytes.bytesOf (.string ⟨a.toArray⟩)
      let c ← Extern.Bytes.asByte (.int .u8 c)
      pure (goInt (b.foldl (fun n x => if x == c then n + 1 else n) (0 : Nat)))) w
    rw [Sem.run_bind, Sem.run_bind, h0]
    rfl
  rw [h3, h2]
  rfl
end
end
section
variable {T : Tb} {Q : Post} {k : List Fr} {ρ : EC} {st : St} {l : List POp} {kill : List Nat}
theorem O_lenO {d : Option Nat} {x : Opd} {v : PV} {n : Nat} (hx : x.get ρ = some v) (hl : lenOf v = some n) (hs : isStr v = false) (h : VO T Q l kill k (ρ.sets d (.int .i64 n)) st) : VO T Q (⟨d, none, .len false x⟩ :: l) kill k ρ st :=
  O_step (by simp only [stepQ, get1, hx, hl, hs]; rfl) h
theorem D_lenO {d : Option Nat} {x : Opd} {v : PV} {n : Nat} (hx : x.get ρ = some v) (hl : lenOf v = some n) (hs : isStr v = false) (h : VD T Q l kill k (ρ.sets d (.int .i64 n)) st) : VD T Q (⟨d, none, .len false x⟩ :: l) kill k ρ st :=
  D_step (by simp only [stepQ, get1, hx, hl, hs]; rfl) h
def At (sz : Nat) (v : PV) (n : Int) (cs : List PV) : Prop := 0 ≤ n ∧ cs.length = sz ∧ ∃ xs f, v = .sl xs f ∧ xs[n.toNat]? = some cs
theorem O_at {d : Option Nat} {x i : Opd} {sz : Nat} {v : PV} {kk : IntKind} {n : Int} {cs : List PV} (hx : x.get ρ = some v) (hi : i.get ρ = some (.int kk n)) (ha : At sz v n cs) (h : VO T Q l kill k (ρ.sets d (.iptr cs 0)) st) : VO T Q (⟨d, none, .indexS x i sz⟩ :: l) kill k ρ st := by
  obtain ⟨h0, hl, xs, f, rfl, hc⟩ := ha
  exact O_idx cs hx hi h0 hc hl h
theorem D_at {d : Option Nat} {x i : Opd} {sz : Nat} {v : PV} {kk : IntKind} {n : Int} {cs : List PV} (hx : x.get ρ = some v) (hi : i.get ρ = some (.int kk n)) (ha : At sz v n cs) (h : VD T Q l kill k (ρ.sets d (.iptr cs 0)) st) : VD T Q (⟨d, none, .indexS x i sz⟩ :: l) kill k ρ st := by
  obtain ⟨h0, hl, xs, f, rfl, hc⟩ := ha
  exact D_idx cs hx hi h0 hc hl h
theorem load_whole {look : Nat → Option Tok} {n : Nat} {cs : List PV} (hl : cs.length = n) : loadAt look n true (.iptr cs 0) = some (.agg cs) := by
  subst hl
  simp [loadAt, behind, slice?]
theorem O_loadA {d : Option Nat} {x : Opd} {n : Nat} {cs : List PV} (hx : x.get ρ = some (.iptr cs 0)) (hl : cs.length = n) (h : VO T Q l kill k (ρ.sets d (.agg cs)) st) : VO T Q (⟨d, none, .load n true x⟩ :: l) kill k ρ st :=
  O_step (by simp only [stepQ, get1, hx]; exact load_whole hl) h
theorem D_loadA {d : Option Nat} {x : Opd} {n : Nat} {cs : List PV} (hx : x.get ρ = some (.iptr cs 0)) (hl : cs.length = n) (h : VD T Q l kill k (ρ.sets d (.agg cs)) st) : VD T Q (⟨d, none, .load n true x⟩ :: l) kill k ρ st :=
  D_step (by simp only [stepQ, get1, hx]; exact load_whole hl) h
theorem O_storeV {n : Nat} {a x : Opd} {p q : PV} {st' : St} (ha : a.get ρ = some p) (hx : x.get ρ = some q) (h1 : q.cells.all PV.one = true) (hl : q.cells.length = n) (hn : Nat.blt 0 n = true) (hs : storeAt st p q = some st') (h : VO T Q l kill k (ρ.sets none (.tuple [])) st') : VO T Q (⟨none, none, .store n a x⟩ :: l) kill k ρ st :=
  O_stepL (by
    have hn' : 0 < n := Nat.le_of_ble_eq_true hn
    simp only [stepL, ha, hx]
    rw [if_pos ⟨h1, hl, hn'⟩, hs]
    rfl) h
end
theorem pll_nil : ∀ cs ∈ ([] : List (List PV)), ∀ c ∈ cs, Pl c := fun cs h => by cases h
theorem pll_cons {a : List PV} {l : List (List PV)} (ha : ∀ c ∈ a, Pl c) (hl : ∀ cs ∈ l, ∀ c ∈ cs, Pl c) : ∀ cs ∈ a :: l, ∀ c ∈ cs, Pl c := fun cs h => by
  rcases List.mem_cons.1 h with rfl | h
  · exact ha
  · exact hl cs h
def ecOf : List (Nat × PV) → EC
  | [] => .nil
  | (t, p) :: l => .put t p (ecOf l)
theorem getA_mem' {α : Type} {t : Nat} {x : α} : ∀ {l : List (Nat × α)}, getA t l = some x → (t, x) ∈ l
  | [], h => by cases h
  | (u, y) :: l, h => by
    simp only [getA] at h
    split at h
    · rename_i e; injection h with h; subst h; subst e; exact List.mem_cons_self
    · exact List.mem_cons_of_mem _ (getA_mem' h)
theorem sub_ecOf : ∀ l : List (Nat × PV), Sub (ecOf l) l
  | [] => fun t p h => by cases h
  | (u, q) :: l => fun t p h => by
    have ih := sub_ecOf l
    simp only [ecOf, EC.get] at h
    simp only [getA]
    split at h
    · rename_i e
      have e' := Nat.eq_of_beq_eq_true e
      rw [if_pos (by omega)]
      exact h
    · rename_i e
      rw [if_neg (fun h' => by subst h'; simp at e)]
      exact ih t p h
section
variable {T : Tb} {Q : Post} {k : List Fr} {ρ : EC} {st : St}
theorem V_forget {c : PC} (l : List (Nat × PV)) (st' : St) (h1 : ∀ x ∈ l, ρ.get x.1 = some x.2 ∧ Bel st'.next x.2) (hb : st'.base = st.base) (hn : st'.base ≤ st'.next ∧ st'.next ≤ st.next)
    (ht : ∀ x ∈ st'.toks, x.1 < st'.next ∧ BelTok st'.next x.2 ∧ st.get x.1 = some x.2) (h : V T Q (.code c :: k) .normal (ecOf l) st') : V T Q (.code c :: k) .normal ρ st := by
  refine V_weak (e' := ecOf l) (st' := st') (fun r hr => ⟨l, ⟨hb, hn, fun t p hp => ?_, fun t k hk => ?_⟩, sub_ecOf l⟩) h
  · have := h1 _ (getA_mem' hp)
    exact .inr ⟨hr _ _ this.1, this.2⟩
  · have := ht _ (getA_mem' hk)
    exact ⟨this.1, this.2.1, .inl this.2.2⟩
theorem fg_nil {m : Nat} : ∀ x ∈ ([] : List (Nat × PV)), ρ.get x.1 = some x.2 ∧ Bel m x.2 := fun x h => by cases h
theorem fg_cons {m t : Nat} {p : PV} {l : List (Nat × PV)} (hg : ρ.get t = some p) (hp : Bel m p) (h : ∀ x ∈ l, ρ.get x.1 = some x.2 ∧ Bel m x.2) : ∀ x ∈ (t, p) :: l, ρ.get x.1 = some x.2 ∧ Bel m x.2 := fun x hx => by
  rcases List.mem_cons.1 hx with rfl | hx
  · exact ⟨hg, hp⟩
  · exact h x hx
theorem V_forgetAll {c : PC} (l : List (Nat × PV)) (h1 : ∀ x ∈ l, ρ.get x.1 = some x.2 ∧ Bel st.base x.2) (hn : st.base ≤ st.next) (h : V T Q (.code c :: k) .normal (ecOf l) ⟨st.base, st.base, []⟩) : V T Q (.code c :: k) .normal ρ st :=
  V_forget l (⟨st.base, st.base, []⟩ : St) h1 rfl ⟨Nat.le_refl _, hn⟩ (fun x hx => by cases hx) h
theorem view_ptr {look : Nat → Option Tok} {t off : Nat} {cs : List PV} (hg : look t = some (.var cs)) (hp : ∀ c ∈ cs, Pl c) : View true look (.ptr t off) (.iptr cs off) :=
  .ptr t off cs cs hg rfl rfl (fun i c d h1 h2 => by
    rw [h1] at h2; injection h2 with h2; subst h2
    exact (hp c (List.mem_of_getElem? h1)).view)
theorem view_func {live : Bool} {look : Nat → Option Tok} {f : Nat} {cs ds : List PV} (h : ViewL live look cs ds) : View live look (.func f cs) (.func f ds) := .func f cs ds h.1 h.2
end
def XCmpB (g f : Nat) (args : List PV) (r : PV) : Prop := f = g ∧ ∃ p q a b, args = [p, q] ∧ BV p a ∧ BV q b ∧ r = .int .i64 (Lib.compareBytes a b)
def XCmpS (g f : Nat) (args : List PV) (r : PV) : Prop := f = g ∧ ∃ a b, args = [.str a, .str b] ∧ r = .int .i64 (Lib.compareBytes a b)
def XIdxB (g f : Nat) (args : List PV) (r : PV) : Prop := f = g ∧ ∃ p a c, args = [p, .int .u8 c] ∧ BV p a ∧ r = .int .i64 (Lib.indexByte a c.toNat.toUInt8)
def XCntB (g f : Nat) (args : List PV) (r : PV) : Prop := f = g ∧ ∃ p a c, args = [p, .int .u8 c] ∧ BV p a ∧ r = .int .i64 (a.count c.toNat.toUInt8 : Nat)
section
variable [Gl]
variable {P : Program} {g : Nat} {fn : Func} (hf : P.funcs[g]? = some fn) (hname : (fn.name == "runtime.NumGoroutine") = false) (hb : fn.body.isNone = true) (hn : Extern.findNext fn = none)
include hf hname hb hn
theorem XCmpB.sem (he : Extern.find fn = some Extern.BytealgCompare.compare) {f : Nat} {args : List PV} {r : PV} (h : XCmpB g f args r) : SemExt P f args r := by
  obtain ⟨rfl, p, q, a, b, rfl, hp, hq, rfl⟩ := h
  exact ext_compareB hf hname hb hn he hp hq
theorem XCmpS.sem (he : Extern.find fn = some Extern.BytealgCompare.compare) {f : Nat} {args : List PV} {r : PV} (h : XCmpS g f args r) : SemExt P f args r := by
  obtain ⟨rfl, a, b, rfl, rfl⟩ := h
  exact ext_compareS hf hname hb hn he a b
theorem XIdxB.sem (he : Extern.find fn = some Extern.BytealgIndexByte.indexByte) {f : Nat} {args : List PV} {r : PV} (h : XIdxB g f args r) : SemExt P f args r := by
  obtain ⟨rfl, p, a, c, rfl, hp, rfl⟩ := h
  exact ext_indexB hf hname hb hn he c hp
theorem XCntB.sem (he : Extern.find fn = some Extern.BytealgCount.count) {f : Nat} {args : List PV} {r : PV} (h : XCntB g f args r) : SemExt P f args r := by
  obtain ⟨rfl, p, a, c, rfl, hp, rfl⟩ := h
  exact ext_countB hf hname hb hn he c hp
end
end Go.AM
set_option linter.unusedVariables false
set_option linter.unusedSimpArgs false
namespace Go.AM
open Go.RowKit
section
variable {T : Tb} {Q : Post} {k : List Fr} {ρ : EC} {st : St} {l : List POp} {kill : List Nat}
theorem O_storeR {a x : Opd} {t g i sz : Nat} {es : List (List PV)} {c : PV} {q : PV} (ha : a.get ρ = some (.rptr t g i 0)) (hx : x.get ρ = some q) (h1 : q.cells = [q]) (h2 : PV.one q = true) (hg : st.get t = some (.row g sz es true)) (hc : es[i]? = some [c]) (h : VO T Q l kill k (ρ.sets none (.tuple [])) (st.put t (.row g sz (es.set i [q]) true))) : VO T Q (⟨none, none, .store 1 a x⟩ :: l) kill k ρ st :=
  O_storeV ha hx (by rw [h1]; simp [h2]) (by rw [h1]; rfl) rfl (by
    simp only [storeAt, hg, hc, h1]
    simp [splice]) h
end
theorem byteCells_get {s : List UInt8} {i : Nat} {b : UInt8} (h : s[i]? = some b) : (byteCells s)[i]? = some [.int .u8 b.toNat] := by
  simp [byteCells, h]
theorem BV.at {v : PV} {s : List UInt8} (h : BV v s) {n : Int} (h0 : 0 ≤ n) {b : UInt8} (hb : s[n.toNat]? = some b) : At 1 v n [.int .u8 b.toNat] := by
  cases h with
  | nil => simp at hb
  | sl s f => exact ⟨h0, rfl, _, _, rfl, byteCells_get hb⟩
end Go.AM
set_option linter.unusedVariables false
set_option linter.unusedSimpArgs false
namespace Go.AM
open Go.RowKit
section
variable {T : Tb} {Q : Post} {k : List Fr} {ρ : EC} {st A B : St} {l : List POp} {kill : List Nat} {m j : Nat}
theorem O_make {d : Option Nat} {sz bytes : Nat} {zero : List PV} {len cap : Opd} {k1 k2 : IntKind} {n : Int} (hl : len.get ρ = some (.int k1 n)) (hc : cap.get ρ = some (.int k2 n)) (hz : zero.length = sz) (h0 : 0 ≤ n) (hr : n * bytes ≤ roomLen)
    (h : VO T Q l kill k (ρ.sets d (.osl st.next 0 0 n.toNat false)) (st.new (.row 0 sz (List.replicate n.toNat zero) true))) : VO T Q (⟨d, none, .makeSl sz zero bytes len cap⟩ :: l) kill k ρ st := by
  refine O_stepL ?_ h
  simp only [stepL, hl, hc]
  rw [if_pos ⟨hz, h0, Int.le_refl _, hr⟩]
theorem O_makeN {d : Option Nat} {sz bytes : Nat} {zero : List PV} {len cap : Opd} {k1 k2 : IntKind} {n : Int} {N : Nat} (hl : len.get ρ = some (.int k1 n)) (hc : cap.get ρ = some (.int k2 n)) (hn : n = (N : Int)) (hz : zero.length = sz) (hr : N * bytes ≤ roomLen)
    (h : VO T Q l kill k (ρ.sets d (.osl st.next 0 0 N false)) (st.new (.row 0 sz (List.replicate N zero) true))) : VO T Q (⟨d, none, .makeSl sz zero bytes len cap⟩ :: l) kill k ρ st := by
  subst hn
  exact O_make hl hc hz (by omega) (by exact_mod_cast hr) h
theorem O_loadP {d : Option Nat} {a : Opd} {t n : Nat} {cs : List PV} (ha : a.get ρ = some (.ptr t 0)) (hg : st.get t = some (.var cs)) (hl : cs.length = n) (h : VO T Q l kill k (ρ.sets d (.agg cs)) st) : VO T Q (⟨d, none, .load n true a⟩ :: l) kill k ρ st :=
  O_step (by
    simp only [stepQ, get1, ha, loadAt, behind, hg]
    subst hl
    simp [slice?]) h
theorem V_cH {x : EX} {k' : List Fr} {c : Opd} {a b : PC} {t : Bool} (ht : t = false) (ha : adv 200 k x = (.code (.cond c a b) :: k', .normal)) (hc : c.get ρ = some (.bool t)) (h1 : V T Q (.code b :: k') .normal ρ st) : V T Q k x ρ st := V_cF ha (by rw [hc, ht]) h1
theorem V_cHT {x : EX} {k' : List Fr} {c : Opd} {a b : PC} {t : Bool} (ht : t = true) (ha : adv 200 k x = (.code (.cond c a b) :: k', .normal)) (hc : c.get ρ = some (.bool t)) (h1 : V T Q (.code a :: k') .normal ρ st) : V T Q k x ρ st := V_cT ha (by rw [hc, ht]) h1
theorem O_shl {d : Option Nat} {x y : Opd} {kk k2 : IntKind} {a b : Int} (hx : x.get ρ = some (.int kk a)) (hy : y.get ρ = some (.int k2 b)) (hb : ¬ b < 0) (h : VO T Q l kill k (ρ.sets d (.int kk (kk.wrap (a * 2 ^ (min b.toNat kk.bits))))) st) : VO T Q (⟨d, none, .bin .shl x y⟩ :: l) kill k ρ st :=
  O_step (by simp only [stepQ, get2, hx, hy, binOp?]; rw [if_pos (.inl trivial)]; simp only [binInt]; rw [if_neg hb]) h
end
end Go.AM
set_option linter.unusedVariables false
set_option linter.unusedSimpArgs false
namespace Go.AM
open Go.RowKit
theorem storeAt_whole {st : St} {t : Nat} {cs ds : List PV} (hg : st.get t = some (.var cs)) (hl : cs.length = ds.length) : storeAt st (.ptr t 0) (.agg ds) = some (st.put t (.var ds)) := by
  have h0 : (PV.agg ds).cells = ds := rfl
  simp only [storeAt, hg]
  rw [if_pos (by rw [h0]; omega), h0]
  simp [splice, ← hl]
end Go.AM
set_option linter.unusedVariables false
set_option linter.unusedSimpArgs false
namespace Go.AM
open Go.RowKit
theorem St.get_new {st : St} {k : Tok} : (st.new k).get st.next = some k := by simp [St.get, St.new, getA_putA]
theorem St.get_new_old {st : St} {k : Tok} {u : Nat} (h : u < st.next) : (st.new k).get u = st.get u := by
  simp only [St.get, St.new, getA_putA]
  rw [if_neg (by omega)]
def Grow (st : St) (v : PV) (st' : St) (v' : PV) : Prop := st'.base = st.base ∧ st.next ≤ st'.next ∧ (tokOf v' = tokOf v ∨ ∃ n, tokOf v' = some n ∧ st.next ≤ n) ∧ ∀ u, u < st.next → tokOf v ≠ some u → st'.get u = st.get u
theorem Grow.refl (st : St) (v : PV) : Grow st v st v := ⟨rfl, Nat.le_refl _, .inl rfl, fun _ _ _ => rfl⟩
theorem Grow.trans {st st1 st2 : St} {v v1 v2 : PV} (h : Grow st v st1 v1) (k : Grow st1 v1 st2 v2) : Grow st v st2 v2 := by
  obtain ⟨a1, a2, a3, a4⟩ := h
  obtain ⟨b1, b2, b3, b4⟩ := k
  refine ⟨b1.trans a1, Nat.le_trans a2 b2, ?_, fun u hu hv => ?_⟩
  · rcases b3 with b3 | ⟨n, b3, b5⟩
    · rcases a3 with a3 | ⟨n, a3, a5⟩
      · exact .inl (b3.trans a3)
      · exact .inr ⟨n, b3.trans a3, a5⟩
    · exact .inr ⟨n, b3, by omega⟩
  · rw [b4 u (by omega) ?_, a4 u hu hv]
    rcases a3 with a3 | ⟨n, a3, a5⟩
    · rw [a3]; exact hv
    · rw [a3]; intro e; injection e; omega
theorem AccT.grow {sz bytes : Nat} {st : St} {v : PV} {es src : List (List PV)} (h : AccT sz st v es) (hne : src ≠ []) (hr : (es.length + src.length) * bytes ≤ roomLen) :
    ∃ v' st', appendTo st sz bytes v src = some (v', st') ∧ AccT sz st' v' (es ++ src) ∧ Grow st v st' v' := by
  obtain ⟨v', st', h1, h2, h3, h4, h5, h6⟩ := h.append hne hr
  refine ⟨v', st', h1, h2, h3, h4, ?_, fun u hu hv => h6 u ?_⟩
  · rcases h5 with h5 | ⟨_, h5⟩
    · exact .inl h5
    · exact .inr ⟨_, h5, Nat.le_refl _⟩
  · rcases h5 with h5 | ⟨_, h5⟩
    · rw [h5]; exact hv
    · rw [h5]; intro e; injection e; omega
def RB (st : St) (v : PV) (s : List UInt8) : Prop := (v = .nilSl ∧ s = []) ∨ (∃ f, v = .sl (byteCells s) f) ∨ ∃ t g lv, v = .osl t g 0 (byteCells s).length false ∧ st.get t = some (.row g 1 (byteCells s) lv) ∧ t < st.next
theorem BV.rb {v : PV} {s : List UInt8} (h : BV v s) (st : St) : RB st v s := by
  cases h with
  | nil => exact .inl ⟨rfl, rfl⟩
  | sl s f => exact .inr (.inl ⟨f, rfl⟩)
theorem AccT.rb {st : St} {v : PV} {s : List UInt8} (h : AccT 1 st v (byteCells s)) : RB st v s := by
  rcases h with ⟨rfl, h⟩ | ⟨t, g, rfl, hg, hlt⟩
  · exact .inl ⟨rfl, by simpa [byteCells] using h⟩
  · exact .inr (.inr ⟨t, g, true, rfl, hg, hlt⟩)
theorem RB.src {st : St} {v : PV} {s : List UInt8} (h : RB st v s) : srcOf st v = some (byteCells s) := by
  rcases h with ⟨rfl, rfl⟩ | ⟨f, rfl⟩ | ⟨t, g, lv, rfl, hg, _⟩
  · rfl
  · rfl
  · simp only [srcOf, elemsOf, hg]
    rw [if_pos ⟨trivial, by omega⟩]
    simp
theorem RB.keep {st st' : St} {v : PV} {s : List UInt8} (h : RB st v s) (hn : st.next ≤ st'.next) (hk : ∀ u, tokOf v = some u → st'.get u = st.get u) : RB st' v s := by
  rcases h with ⟨rfl, rfl⟩ | ⟨f, rfl⟩ | ⟨t, g, lv, rfl, hg, hlt⟩
  · exact .inl ⟨rfl, rfl⟩
  · exact .inr (.inl ⟨f, rfl⟩)
  · exact .inr (.inr ⟨t, g, lv, rfl, by rw [hk t rfl]; exact hg, by omega⟩)
theorem RB.lt {st : St} {v : PV} {s : List UInt8} (h : RB st v s) {u : Nat} (hu : tokOf v = some u) : u < st.next := by
  rcases h with ⟨rfl, rfl⟩ | ⟨f, rfl⟩ | ⟨t, g, lv, rfl, hg, hlt⟩
  · cases hu
  · cases hu
  · injection hu with hu; omega
section
variable {T : Tb} {k : List Fr} {ρ : EC} {st : St} {l : List POp} {kill : List Nat}
theorem O_rawAll {Q : Post} {d : Option Nat} {f : Opd} {xs : List Opd} {g : Nat} {caps vals : List PV} {r : PV} {st1 : St} (hc : T.R (.raw g (vals ++ caps) ⟨st.next, st.next, st.toks⟩ r st1)) (hb : st1.base = st.next) (hf : f.get ρ = some (.func g caps)) (hx : gets ρ xs = some vals) (h : VO T Q l kill k (ρ.sets d r) ⟨st.base, st1.next, st1.toks⟩) : VO T Q (⟨d, none, .call f xs⟩ :: l) kill k ρ st :=
  O_rawP [] st.toks hf hx (fun t => ⟨rfl, .inl rfl⟩) hb hc h
theorem O_loadV {Q : Post} {d : Option Nat} {a : Opd} {t off : Nat} {cs : List PV} {c : PV} (ha : a.get ρ = some (.ptr t off)) (hg : st.get t = some (.var cs)) (hc : cs[off]? = some c) (h : VO T Q l kill k (ρ.sets d c) st) : VO T Q (⟨d, none, .load 1 false a⟩ :: l) kill k ρ st :=
  O_step (by
    have hlt := (List.getElem?_eq_some_iff.1 hc).1
    simp only [stepQ, get1, ha, loadAt, behind, hg, Option.bind_some, slice?]
    rw [if_pos (by omega)]
    simpa using hc) h
end
end Go.AM
set_option linter.unusedVariables false
set_option linter.unusedSimpArgs false
namespace Go.AM
open Go.RowKit
end Go.AM
set_option linter.unusedVariables false
set_option linter.unusedSimpArgs false
namespace Go.AM
open Go.RowKit
end Go.AM
set_option linter.unusedVariables false
set_option linter.unusedSimpArgs false
namespace Go.AM
open Go.RowKit
end Go.AM
set_option linter.unusedVariables false
set_option linter.unusedSimpArgs false
namespace Go.AM
open Go.RowKit
section
variable {T : Tb} {Q : Post} {k : List Fr} {ρ : EC} {st : St} {l : List POp} {kill : List Nat}
theorem O_is {d : Option Nat} {op : PI} {p p' : PV} (he : p = p') (hq : stepQ st.get ρ op = some p) (h : VO T Q l kill k (ρ.sets d p') st) : VO T Q (⟨d, none, op⟩ :: l) kill k ρ st := by
  subst he
  exact O_step hq h
theorem bool_is {a b : Bool} (h : a = b) : PV.bool a = PV.bool b := by rw [h]
theorem dec_is {p : Prop} [Decidable p] (h : p) : PV.bool (decide p) = PV.bool true := by rw [decide_eq_true h]
theorem dec_not {p : Prop} [Decidable p] (h : ¬ p) : PV.bool (decide p) = PV.bool false := by rw [decide_eq_false h]
theorem ndec_is {p : Prop} [Decidable p] (h : p) : PV.bool (!decide p) = PV.bool false := by rw [decide_eq_true h]; rfl
theorem ndec_not {p : Prop} [Decidable p] (h : ¬ p) : PV.bool (!decide p) = PV.bool true := by rw [decide_eq_false h]; rfl
theorem int_is {k : IntKind} {a b : Int} (h : a = b) : PV.int k a = PV.int k b := by rw [h]
end
end Go.AM
set_option linter.unusedVariables false
set_option linter.unusedSimpArgs false
namespace Go.AM
open Go.RowKit
end Go.AM
set_option linter.unusedVariables false
set_option linter.unusedSimpArgs false
namespace Go.AM
open Go.RowKit
section
variable {T : Tb} {Q : Post} {k : List Fr} {ρ : EC} {st A B : St} {l : List POp} {kill : List Nat} {m j : Nat}
theorem O_cA {d : Option Nat} {f : Opd} {xs : List Opd} {g : Nat} {caps vals : List PV} {r : PV} (hf : f.get ρ = some (.func g caps)) (hx : gets ρ xs = some vals) (hc : T.R (.call g (vals ++ caps) r)) (h : VO T Q l kill k (ρ.sets d r) st)
    (hp : ∀ c ∈ vals ++ caps, Pl c := by (repeat' (first | exact Pl.int _ _ | exact Pl.bool _ | exact Pl.str _ | exact Pl.nilSl | exact pl_nil | refine pl_cons ?_ ?_ | refine Pl.tuple _ ?_ | refine Pl.agg _ ?_ | refine Pl.func _ _ ?_ | assumption | refine Pl.iptr _ _ ?_ | exact pll_nil | refine pll_cons ?_ ?_ | refine Pl.sl _ _ ?_)); first | done | fail) : VO T Q (⟨d, none, .call f xs⟩ :: l) kill k ρ st :=
  O_callP hf hx (viewL_pl hp) hc h
theorem D_cA {d : Option Nat} {f : Opd} {xs : List Opd} {g : Nat} {caps vals : List PV} {r : PV} (hf : f.get ρ = some (.func g caps)) (hx : gets ρ xs = some vals) (hc : T.R (.call g (vals ++ caps) r)) (h : VD T Q l kill k (ρ.sets d r) st)
    (hp : ∀ c ∈ vals ++ caps, Pl c := by (repeat' (first | exact Pl.int _ _ | exact Pl.bool _ | exact Pl.str _ | exact Pl.nilSl | exact pl_nil | refine pl_cons ?_ ?_ | refine Pl.tuple _ ?_ | refine Pl.agg _ ?_ | refine Pl.func _ _ ?_ | assumption | refine Pl.iptr _ _ ?_ | exact pll_nil | refine pll_cons ?_ ?_ | refine Pl.sl _ _ ?_)); first | done | fail) : VD T Q (⟨d, none, .call f xs⟩ :: l) kill k ρ st :=
  D_callP hf hx (viewL_pl hp) hc h
theorem V_fA {pf : PF} {Q : PV → Prop} {x : EX} {r : PV} (ha : adv 200 k x = ([], .ret)) (hr : resG ρ st.get pf.results = some r) (hq : Q r)
    (hp : Pl r := by (repeat' (first | exact Pl.int _ _ | exact Pl.bool _ | exact Pl.str _ | exact Pl.nilSl | exact pl_nil | refine pl_cons ?_ ?_ | refine Pl.tuple _ ?_ | refine Pl.agg _ ?_ | refine Pl.func _ _ ?_ | assumption | refine Pl.iptr _ _ ?_ | exact pll_nil | refine pll_cons ?_ ?_ | refine Pl.sl _ _ ?_)); first | done | fail) : V T (Ends pf Q) k x ρ st := V_fin ha hr hp.view hq
theorem V_fAN {pf : PF} {Q : PV → Prop} {x : EX} {r : PV} (ha : adv 200 k x = ([], .normal)) (hr : resG ρ st.get pf.results = some r) (hq : Q r)
    (hp : Pl r := by (repeat' (first | exact Pl.int _ _ | exact Pl.bool _ | exact Pl.str _ | exact Pl.nilSl | exact pl_nil | refine pl_cons ?_ ?_ | refine Pl.tuple _ ?_ | refine Pl.agg _ ?_ | refine Pl.func _ _ ?_ | assumption | refine Pl.iptr _ _ ?_ | exact pll_nil | refine pll_cons ?_ ?_ | refine Pl.sl _ _ ?_)); first | done | fail) : V T (Ends pf Q) k x ρ st := V_finN ha hr hp.view hq
end
end Go.AM
set_option linter.unusedVariables false
set_option linter.unusedSimpArgs false
namespace Go.AM
open Go.RowKit
def Got (e : EC) : List (Nat × PV) → Prop
  | [] => True
  | (t, p) :: l => e.get t = some p ∧ Got e l
theorem Got.get {e : EC} : ∀ {l : List (Nat × PV)}, Got e l → ∀ t p, (ecOf l).get t = some p → e.get t = some p
  | [], h, t, p, hp => by cases hp
  | (u, q) :: l, ⟨h1, h2⟩, t, p, hp => less_put h1 (fun t p h => Got.get h2 t p h) t p hp
section
variable {T : Tb} {Q : Post} {k : List Fr} {ρ : EC} {st : St} {P : EX → EC → St → Prop}
theorem V_to {x : EX} (l : List (Nat × PV)) (h : Got ρ l) (hv : V T Q k x (ecOf l) st) : V T Q k x ρ st := V_less (ecOf l) h.get hv
theorem V_re {x x' : EX} {k' : List Fr} {l : List (Nat × PV)} (ha : adv 200 k x = (k', x')) (hv : V T Q k' x' (ecOf l) st) (h : Got ρ l) : V T Q k x ρ st := V_adv ha (V_to l h hv)
theorem V_out {x x' : EX} (l : List (Nat × PV)) (ha : adv 200 k x = ([], x')) (h : Got ρ l) (hp : P x' (ecOf l) st) : V T (PE P) k x ρ st := V_to l h (V_endP ha hp)
theorem V_cutTo {c : PC} {x : EX} {k' : List Fr} {l : List (Nat × PV)} (ha : adv 200 k' x = (.code c :: k, .normal)) (h : V T (PE P) [.code c] .normal (ecOf l) st) (hl : Got ρ l) (hk : ∀ x e st', P x e st' → V T Q k x e st') : V T Q k' x ρ st := V_adv ha (V_to l hl (V_cutP h hk))
end
theorem some_int {k : IntKind} {a b : Int} (h : a = b) : some (PV.int k a) = some (PV.int k b) := by rw [h]
end Go.AM
set_option linter.unusedVariables false
set_option linter.unusedSimpArgs false
namespace Go.AM
open Go.RowKit
def XIdxS (g f : Nat) (args : List PV) (r : PV) : Prop := f = g ∧ ∃ (a : List UInt8) (c : Int), args = [.str a, .int .u8 c] ∧ r = .int .i64 (Lib.indexByte a c.toNat.toUInt8)
def XCntS (g f : Nat) (args : List PV) (r : PV) : Prop := f = g ∧ ∃ (a : List UInt8) (c : Int), args = [.str a, .int .u8 c] ∧ r = .int .i64 (a.count c.toNat.toUInt8 : Nat)
section
variable [Gl]
variable {P : Program} {g : Nat} {fn : Func} (hf : P.funcs[g]? = some fn) (hname : (fn.name == "runtime.NumGoroutine") = false) (hb : fn.body.isNone = true) (hn : Extern.findNext fn = none)
include hf hname hb hn
theorem XIdxS.sem (he : Extern.find fn = some Extern.BytealgIndexByte.indexByte) {f : Nat} {args : List PV} {r : PV} (h : XIdxS g f args r) : SemExt P f args r := by
  obtain ⟨rfl, a, c, rfl, rfl⟩ := h
  intro F w vals hs hr
  have e := arr2 (by simpa using hs)
  have h0 := rep_str (hr 0 _ rfl)
  have h1 := rep_int (hr 1 _ rfl)
  refine ⟨_, w, ?_, .refl _ _, .int _ _⟩
  rw [run_callFunc_extern hf hname hb hn he, e, h0, h1, Lib.run_indexByteString (P := P) ⟨a.toArray⟩ c w]
  rfl
theorem XCntS.sem (he : Extern.find fn = some Extern.BytealgCount.count) {f : Nat} {args : List PV} {r : PV} (h : XCntS g f args r) : SemExt P f args r := by
  obtain ⟨rfl, a, c, rfl, rfl⟩ := h
  intro F w vals hs hr
  have e := arr2 (by simpa using hs)
  have h0 := rep_str (hr 0 _ rfl)
  have h1 := rep_int (hr 1 _ rfl)
  refine ⟨_, w, ?_, .refl _ _, .int _ _⟩
  rw [run_callFunc_extern hf hname hb hn he, e, h0, h1, Lib.run_countString (P := P) ⟨a.toArray⟩ c w]
  rfl
end
theorem V_st {T : Tb} {Q : Post} {k : List Fr} {x : EX} {e : EC} {st st' : St} (h : st = st') (hv : V T Q k x e st') : V T Q k x e st := h ▸ hv
end Go.AM
set_option linter.unusedVariables false
set_option linter.unusedSimpArgs false
namespace Go.AM
open Go.RowKit
end Go.AM
set_option linter.unusedVariables false
set_option linter.unusedSimpArgs false
namespace Go.AM
open Go.RowKit
def LR {α : Type} (R : α → List PV → Prop) (p : PV) (l : List α) : Prop :=
  (p = .nilSl ∧ l = []) ∨ ∃ xs full, p = .sl xs full ∧ l.length ≤ 140737488355328 ∧ xs.length = l.length ∧ ∀ (j : Nat) (a : α) (cs : List PV), l[j]? = some a → xs[j]? = some cs → R a cs
section
variable {α : Type} {R R' : α → List PV → Prop} {p : PV} {l : List α}
theorem LR.len (h : LR R p l) : lenOf p = some l.length ∧ isStr p = false ∧ l.length ≤ 140737488355328 := by
  rcases h with ⟨rfl, rfl⟩ | ⟨xs, full, rfl, hb, hl, h⟩
  · exact ⟨rfl, rfl, by simp⟩
  · exact ⟨by simp [lenOf, hl], rfl, hb⟩
theorem LR.at {sz : Nat} (h : LR R p l) (hs : ∀ a cs, R a cs → cs.length = sz) {j : Nat} {a : α} (hv : l[j]? = some a) : ∃ cs, At sz p j cs ∧ R a cs := by
  rcases h with ⟨rfl, rfl⟩ | ⟨xs, full, rfl, hb, hl, h⟩
  · simp at hv
  · have hlt : j < xs.length := by have := (List.getElem?_eq_some_iff.1 hv).1; omega
    have hc := h _ a _ hv (List.getElem?_eq_getElem hlt)
    exact ⟨_, ⟨by omega, hs _ _ hc, xs, full, rfl, by simp [hlt]⟩, hc⟩
theorem LR.pl (h : LR R p l) (hp : ∀ a ∈ l, ∀ cs, R a cs → ∀ c ∈ cs, Pl c) : Pl p := by
  rcases h with ⟨rfl, rfl⟩ | ⟨xs, full, rfl, hb, hl, h⟩
  · exact .nilSl
  · refine .sl _ _ fun cs hcs c hc => ?_
    obtain ⟨j, hj⟩ := List.getElem?_of_mem hcs
    have hlt : j < l.length := by have := (List.getElem?_eq_some_iff.1 hj).1; omega
    exact hp l[j] (List.getElem_mem _) cs (h j l[j] cs (List.getElem?_eq_getElem hlt) hj) c hc
theorem LR.mono (h : LR R p l) (hi : ∀ a ∈ l, ∀ cs, R a cs → R' a cs) : LR R' p l := by
  rcases h with ⟨rfl, rfl⟩ | ⟨xs, full, rfl, hb, hl, h⟩
  · exact .inl ⟨rfl, rfl⟩
  · exact .inr ⟨xs, full, rfl, hb, hl, fun j a cs h1 h2 => hi a (List.mem_of_getElem? h1) cs (h j a cs h1 h2)⟩
theorem LR.elems (h : LR R p l) (look : Nat → Option Tok) : ∃ xs, elemsOf look p = some xs ∧ xs.length = l.length ∧ ∀ (j : Nat) (a : α) (cs : List PV), l[j]? = some a → xs[j]? = some cs → R a cs := by
  rcases h with ⟨rfl, rfl⟩ | ⟨xs, full, rfl, hb, hl, h⟩
  · exact ⟨[], rfl, rfl, fun j a cs h1 => by simp at h1⟩
  · exact ⟨xs, rfl, hl, h⟩
theorem LR.map {β : Type} {R'' : β → List PV → Prop} {f : α → β} (h : LR R p l) (hi : ∀ a ∈ l, ∀ cs, R a cs → R'' (f a) cs) : LR R'' p (l.map f) := by
  rcases h with ⟨rfl, rfl⟩ | ⟨xs, full, rfl, hb, hl, h⟩
  · exact .inl ⟨rfl, rfl⟩
  · refine .inr ⟨xs, full, rfl, by simpa using hb, by simpa using hl, fun j b cs h1 h2 => ?_⟩
    rw [List.getElem?_map] at h1
    cases ha : l[j]? with
    | none => rw [ha] at h1; cases h1
    | some a =>
      rw [ha] at h1
      injection h1 with h1
      subst h1
      exact hi a (List.mem_of_getElem? ha) cs (h j a cs ha h2)
end
def AllPl : List (Nat × PV) → Prop
  | [] => True
  | (_, p) :: l => Pl p ∧ AllPl l
theorem AllPl.mem : ∀ {l : List (Nat × PV)}, AllPl l → ∀ x ∈ l, Pl x.2
  | [], h, x, hx => by cases hx
  | (u, q) :: l, ⟨h1, h2⟩, x, hx => by
    rcases List.mem_cons.1 hx with rfl | hx
    · exact h1
    · exact AllPl.mem h2 x hx
section
variable {T : Tb} {Q : Post} {k : List Fr} {ρ : EC} {st : St} {P : EX → EC → St → Prop}
theorem V_reF {x : EX} {k' : List Fr} {c : PC} {l : List (Nat × PV)} (ha : adv 200 k x = (.code c :: k', .normal)) (hv : V T Q (.code c :: k') .normal (ecOf l) ⟨st.base, st.base, []⟩) (hn : Nat.ble st.base st.next = true) (h : Got ρ l) (hp : AllPl l) : V T Q k x ρ st :=
  V_adv ha (V_forgetAll l (fun y hy => ⟨by
    have : ∀ (l : List (Nat × PV)), Got ρ l → ∀ y ∈ l, ρ.get y.1 = some y.2 := fun l => by
      induction l with
      | nil => intro _ y hy; cases hy
      | cons a r ih =>
        intro ⟨h1, h2⟩ y hy
        rcases List.mem_cons.1 hy with rfl | hy
        · exact h1
        · exact ih h2 y hy
    exact this l h y hy, (hp.mem y hy).bel⟩) (Nat.le_of_ble_eq_true hn) hv)
theorem V_cHF {x : EX} {k' : List Fr} {c : Opd} {a b : PC} {p : Prop} [Decidable p] (ha : adv 200 k x = (.code (.cond c a b) :: k', .normal)) (hc : c.get ρ = some (.bool (decide p))) (hp : ¬ p) (h1 : V T Q (.code b :: k') .normal ρ st) : V T Q k x ρ st := V_cF ha (by rw [hc, decide_eq_false hp]) h1
theorem V_cHY {x : EX} {k' : List Fr} {c : Opd} {a b : PC} {p : Prop} [Decidable p] (ha : adv 200 k x = (.code (.cond c a b) :: k', .normal)) (hc : c.get ρ = some (.bool (decide p))) (hp : p) (h1 : V T Q (.code a :: k') .normal ρ st) : V T Q k x ρ st := V_cT ha (by rw [hc, decide_eq_true hp]) h1
end
end Go.AM
set_option linter.unusedVariables false
set_option linter.unusedSimpArgs false
namespace Go.AM
open Go.RowKit
section
variable {H : Type} {P : Program}
structure BdOK (P : Program) (B : TypeId → DataW H → Prop) : Prop where
  str : ∀ {t : TypeId} {s : List UInt8}, B t (.lit (.string s)) → s.length ≤ 140737488355328
  sl : ∀ {t e : TypeId} {ds rest : List (DataW H)}, P.underlying t = some (.slice e) → 0 < P.bytesOf e → B t (.slice ds rest) → ds.length ≤ 140737488355328 ∧ ∀ d ∈ ds, B e d
  st : ∀ {t : TypeId} {fs : Array Field} {ds : List (DataW H)}, P.underlying t = some (.struct fs) → B t (.agg ds) → ∀ (j : Nat) (f : Field) (d : DataW H), fs[j]? = some f → ds[j]? = some d → B f.type d
def Wgt (P : Program) (t : TypeId) (d : DataW H) : Prop := (DataW.weights P t d).all (· ≤ reachBytes) = true
theorem wgt_all {e : TypeId} : ∀ {ds : List (DataW H)}, (DataW.weightsAll P e ds).all (· ≤ reachBytes) = true → ∀ d ∈ ds, Wgt P e d
  | [], _, d, h => by cases h
  | x :: r, h, d, hd => by
    simp only [DataW.weightsAll, List.all_append, Bool.and_eq_true] at h
    rcases List.mem_cons.1 hd with rfl | hd
    · exact h.1
    · exact wgt_all h.2 d hd
theorem wgt_each : ∀ {ts : List TypeId} {ds : List (DataW H)}, (DataW.weightsEach P ts ds).all (· ≤ reachBytes) = true → ∀ (j : Nat) (t : TypeId) (d : DataW H), ts[j]? = some t → ds[j]? = some d → Wgt P t d
  | [], _, _, j, t, d, h1, _ => by simp at h1
  | _ :: _, [], _, j, t, d, _, h2 => by simp at h2
  | t :: ts, x :: r, h, j, u, d, h1, h2 => by
    simp only [DataW.weightsEach, List.all_append, Bool.and_eq_true] at h
    cases j with
    | zero => injection h1 with h1; injection h2 with h2; subst h1 h2; exact h.1
    | succ j => exact wgt_each h.2 j u d (by simpa using h1) (by simpa using h2)
theorem wgt_ok : BdOK (H := H) P (Wgt P) where
  str := fun {t s} h => by
    simp only [Wgt, DataW.weights, List.all_cons, List.all_nil, Bool.and_true, decide_eq_true_eq] at h
    unfold reachBytes at h
    omega
  sl := fun {t e ds rest} hu hb h => by
    simp only [Wgt, DataW.weights, hu, List.all_cons, List.all_append, Bool.and_eq_true, decide_eq_true_eq] at h
    refine ⟨?_, wgt_all h.2.1⟩
    have h1 := h.1
    unfold reachBytes at h1
    have : ds.length * 1 ≤ (ds.length + rest.length) * P.bytesOf e := Nat.mul_le_mul (by omega) hb
    omega
  st := fun {t fs ds} hu h j f d h1 h2 => by
    simp only [Wgt, DataW.weights, hu] at h
    exact wgt_each h j f.type d (by rw [List.getElem?_map, Array.getElem?_toList, h1]; rfl) h2
variable {B : TypeId → DataW H → Prop}
theorem part_size {ds rest : List (DataW H)} {d : DataW H} (h : d ∈ ds) : SizeOf.sizeOf d < SizeOf.sizeOf (DataW.slice ds rest) := by
  have := List.sizeOf_lt_of_mem h
  simp
  omega
theorem field_size {ds : List (DataW H)} {d : DataW H} (h : d ∈ ds) : SizeOf.sizeOf d < SizeOf.sizeOf (DataW.agg ds) := by
  have := List.sizeOf_lt_of_mem h
  simp
  omega
theorem lr_of {α : Type} [Inhabited α] {R : α → List PV → Prop} {t e : TypeId} {d : DataW H} {qs : List PV} (hB : BdOK P B) (hu : P.underlying t = some (.slice e)) (hp : 0 < P.cellsOf e) (hb : 0 < P.bytesOf e) (h : TV P t d qs) (hd : B t d)
    (ih : ∀ (x : DataW H) (cs : List PV), SizeOf.sizeOf x < SizeOf.sizeOf d → TV P e x cs → B e x → ∃ a, R a cs) : ∃ q l, qs = [q] ∧ LR R q l := by
  rcases tv_slice hu hp h with ⟨rfl, rfl⟩ | ⟨dl, rest, xs, full, rfl, rfl, hlen, _, _, helems⟩
  · exact ⟨_, [], rfl, .inl ⟨rfl, rfl⟩⟩
  · obtain ⟨h1, h2⟩ := hB.sl hu hb hd
    have hx : ∀ j : Nat, ∃ v, ∀ cs, xs[j]? = some cs → R v cs := fun j => by
      cases hj : xs[j]? with
      | none => exact ⟨default, fun cs h => by cases h⟩
      | some cs =>
        have hlt : j < dl.length := by have := (List.getElem?_eq_some_iff.1 hj).1; omega
        have hm : dl[j] ∈ dl := List.getElem_mem hlt
        obtain ⟨v, hv⟩ := ih dl[j] cs (part_size hm) (helems j _ cs (List.getElem?_eq_getElem hlt) hj) (h2 _ hm)
        exact ⟨v, fun cs' h => by injection h with h; subst h; exact hv⟩
    obtain ⟨f, hf⟩ := Classical.axiomOfChoice hx
    refine ⟨_, (List.range xs.length).map f, rfl, .inr ⟨xs, full, rfl, by simp; omega, by simp, fun j v cs hj hc => ?_⟩⟩
    have hlt := (List.getElem?_eq_some_iff.1 hc).1
    rw [List.getElem?_map, List.getElem?_range hlt] at hj
    simp only [Option.map_some, Option.some.injEq] at hj
    subst hj
    exact hf j cs hc
end
end Go.AM
set_option linter.unusedVariables false
set_option linter.unusedSimpArgs false
namespace Go.AM
open Go.RowKit
theorem sum_le {α β : Type} {w : α → Nat} {u : β → Nat} : ∀ {l : List α} {m : List β}, l.length = m.length → (∀ (j : Nat) (a : α) (b : β), l[j]? = some a → m[j]? = some b → w a ≤ u b) → (l.map w).sum ≤ (m.map u).sum
  | [], [], _, _ => Nat.le_refl _
  | a :: l, b :: m, hl, h => by
    have h0 := h 0 a b rfl rfl
    have := sum_le (l := l) (m := m) (w := w) (u := u) (by simpa using hl) (fun j a b h1 h2 => h (j + 1) a b (by simpa using h1) (by simpa using h2))
    simp only [List.map_cons, List.sum_cons]
    omega
  | [], _ :: _, hl, _ => by simp at hl
  | _ :: _, [], hl, _ => by simp at hl
section
variable {H : Type} {P : Program} {B : TypeId → DataW H → Prop}
theorem lr_ofW {α : Type} [Inhabited α] {R : α → List PV → Prop} {t e : TypeId} {d : DataW H} {qs : List PV} (w : α → Nat) (u : DataW H → Nat) (hB : BdOK P B) (hu : P.underlying t = some (.slice e)) (hp : 0 < P.cellsOf e) (hb : 0 < P.bytesOf e) (h : TV P t d qs) (hd : B t d)
    (ih : ∀ (x : DataW H) (cs : List PV), SizeOf.sizeOf x < SizeOf.sizeOf d → TV P e x cs → B e x → ∃ a, R a cs ∧ w a ≤ u x) : ∃ q l, qs = [q] ∧ LR R q l ∧ ((d = .nil ∧ l = []) ∨ ∃ dl rest, d = .slice dl rest ∧ l.length = dl.length ∧ (l.map w).sum ≤ (dl.map u).sum) := by
  rcases tv_slice hu hp h with ⟨rfl, rfl⟩ | ⟨dl, rest, xs, full, rfl, rfl, hlen, _, _, helems⟩
  · exact ⟨_, [], rfl, .inl ⟨rfl, rfl⟩, .inl ⟨rfl, rfl⟩⟩
  · obtain ⟨h1, h2⟩ := hB.sl hu hb hd
    have hx : ∀ j : Nat, ∃ v, ∀ cs x, xs[j]? = some cs → dl[j]? = some x → R v cs ∧ w v ≤ u x := fun j => by
      cases hj : xs[j]? with
      | none => exact ⟨default, fun cs x h => by cases h⟩
      | some cs =>
        have hlt : j < dl.length := by have := (List.getElem?_eq_some_iff.1 hj).1; omega
        have hm : dl[j] ∈ dl := List.getElem_mem hlt
        obtain ⟨v, hv, hw⟩ := ih dl[j] cs (part_size hm) (helems j _ cs (List.getElem?_eq_getElem hlt) hj) (h2 _ hm)
        refine ⟨v, fun cs' x h hx => ?_⟩
        injection h with h
        subst h
        rw [List.getElem?_eq_getElem hlt] at hx
        injection hx with hx
        subst hx
        exact ⟨hv, hw⟩
    obtain ⟨f, hf⟩ := Classical.axiomOfChoice hx
    have hg : ∀ (j : Nat) (v : α), ((List.range xs.length).map f)[j]? = some v → j < xs.length ∧ v = f j := fun j v hj => by
      have hlt : j < xs.length := by have := (List.getElem?_eq_some_iff.1 hj).1; simpa using this
      rw [List.getElem?_map, List.getElem?_range hlt] at hj
      injection hj with hj
      exact ⟨hlt, hj.symm⟩
    refine ⟨_, (List.range xs.length).map f, rfl, .inr ⟨xs, full, rfl, by simp; omega, by simp, fun j v cs hj hc => ?_⟩, .inr ⟨dl, rest, rfl, by simp [hlen], sum_le (by simp [hlen]) fun j v x hj hx => ?_⟩⟩
    · obtain ⟨hlt, rfl⟩ := hg j v hj
      exact (hf j cs dl[j] hc (List.getElem?_eq_getElem (by omega))).1
    · obtain ⟨hlt, rfl⟩ := hg j v hj
      exact (hf j xs[j] x (List.getElem?_eq_getElem hlt) hx).2
end
def AccP (sz : Nat) (st : St) (v : PV) (es : List (List PV)) : Prop := (v = .nilSl ∧ es = []) ∨ ∃ t g rs, v = .osl t g 0 es.length false ∧ st.get t = some (.row g sz rs true) ∧ rs.take es.length = es ∧ es.length ≤ rs.length
theorem AccP.app {sz bytes : Nat} {st : St} {v : PV} {es src : List (List PV)} (h : AccP sz st v es) (hr : (es.length + src.length) * bytes ≤ roomLen) : ∃ v' st', appendTo st sz bytes v src = some (v', st') ∧ AccP sz st' v' (es ++ src) := by
  by_cases hne : src = []
  · subst hne
    refine ⟨v, st, ?_, by rw [List.append_nil]; exact h⟩
    unfold appendTo
    rw [if_pos rfl]
    rcases h with ⟨rfl, _⟩ | ⟨t, g, rs, rfl, _⟩ <;> rfl
  · rcases h with ⟨rfl, rfl⟩ | ⟨t, g, rs, rfl, hg, ht, hl⟩
    · exact ⟨_, _, appendTo_nil hne (by simpa using hr), .inr ⟨st.next, 0, src, by simp, by simp [St.get, St.new, getA_putA], by simp, by simp⟩⟩
    · refine ⟨.osl t (g + 1) 0 (es.length + src.length) false, st.put t (.row (g + 1) sz (es ++ src) true), ?_, .inr ⟨t, g + 1, es ++ src, by simp, by simp [St.get, St.put, getA_putA], by rw [List.take_of_length_le (Nat.le_refl _)], Nat.le_refl _⟩⟩
      unfold appendTo
      rw [if_neg hne]
      simp only [hg]
      rw [if_pos ⟨trivial, trivial, by omega, hr⟩, List.drop_zero, ht]
theorem AccP.view {sz : Nat} {st : St} {v : PV} {es : List (List PV)} (h : AccP sz st v es) (hp : ∀ cs ∈ es, ∀ c ∈ cs, Pl c) : ∃ v', View true st.get v v' ∧ ((v' = .nilSl ∧ es = []) ∨ v' = .sl es false) := by
  rcases h with ⟨rfl, rfl⟩ | ⟨t, g, rs, rfl, hg, ht, hl⟩
  · exact ⟨.nilSl, .nilSl, .inl ⟨rfl, rfl⟩⟩
  · refine ⟨.sl es false, ?_, .inr rfl⟩
    have := view_osl (live := true) (full := false) hg (.inl rfl) (off := 0) (len := es.length) (by omega) (by rw [List.drop_zero, ht]; exact hp)
    rw [List.drop_zero, ht] at this
    exact this
end Go.AM
set_option linter.unusedVariables false
set_option linter.unusedSimpArgs false
namespace Go.AM
open Go.RowKit
def AB (st : St) (v : PV) (s : List UInt8) : Prop := v = .sl (byteCells s) true ∨ AccT 1 st v (byteCells s)
theorem AB.nil (st : St) : AB st .nilSl [] := .inr (.inl ⟨rfl, rfl⟩)
theorem AB.lit (st : St) (s : List UInt8) : AB st (.sl (byteCells s) true) s := .inl rfl
theorem AB.rb {st : St} {v : PV} {s : List UInt8} (h : AB st v s) : RB st v s := by
  rcases h with rfl | h
  · exact .inr (.inl ⟨_, rfl⟩)
  · exact h.rb
theorem AB.src {st : St} {v : PV} {s : List UInt8} (h : AB st v s) : srcOf st v = some (byteCells s) := h.rb.src
theorem AB.len {st : St} {v : PV} {s : List UInt8} (h : AB st v s) : lenOf v = some s.length ∧ isStr v = false := by
  rcases h with rfl | ⟨rfl, h⟩ | ⟨t, g, rfl, hg, hlt⟩
  · exact ⟨by simp [lenOf, byteCells], rfl⟩
  · have : s = [] := by simpa [byteCells] using h
    subst this
    exact ⟨rfl, rfl⟩
  · exact ⟨by simp [lenOf, byteCells], rfl⟩
theorem AB.lt {st : St} {v : PV} {s : List UInt8} (h : AB st v s) {u : Nat} (hu : tokOf v = some u) : u < st.next := h.rb.lt hu
theorem AB.keep {st st' : St} {v : PV} {s : List UInt8} (h : AB st v s) (hn : st.next ≤ st'.next) (hk : ∀ u, tokOf v = some u → st'.get u = st.get u) : AB st' v s := by
  rcases h with rfl | ⟨rfl, h⟩ | ⟨t, g, rfl, hg, hlt⟩
  · exact .inl rfl
  · exact .inr (.inl ⟨rfl, h⟩)
  · exact .inr (.inr ⟨t, g, rfl, by rw [hk t rfl]; exact hg, by omega⟩)
theorem AB.apart {st st' : St} {v w w' : PV} {s : List UInt8} (h : AB st v s) (g : Grow st w st' w') (hd : ∀ u, tokOf v = some u → tokOf w ≠ some u) : AB st' v s :=
  h.keep g.2.1 fun u hu => g.2.2.2 u (h.lt hu) (hd u hu)
theorem AB.app {st : St} {v : PV} {s : List UInt8} (h : AB st v s) {t : List UInt8} (hl : s.length + t.length ≤ 100000000000000) : ∃ v' st', appendTo st 1 1 v (byteCells t) = some (v', st') ∧ AB st' v' (s ++ t) ∧ Grow st v st' v' := by
  by_cases ht : t = []
  · subst ht
    refine ⟨v, st, ?_, by rw [List.append_nil]; exact h, .refl _ _⟩
    refine appendTo_none ?_
    rcases h with rfl | ⟨rfl, _⟩ | ⟨t, g, rfl, _⟩
    · exact .inr (.inl ⟨_, _, rfl⟩)
    · exact .inl rfl
    · exact .inr (.inr ⟨_, _, _, _, _, rfl⟩)
  · have hne : byteCells t ≠ [] := by simpa [byteCells] using ht
    rcases h with rfl | h
    · refine ⟨_, _, appendTo_full hne (by rw [byteCells_length, byteCells_length]; simp only [roomLen]; omega) (allOf_bytes s), .inr (.inr ⟨st.next, 0, by rw [byteCells_append, List.length_append], by rw [byteCells_append]; exact St.get_new, by simp [St.new]⟩), rfl, by simp [St.new], .inr ⟨st.next, rfl, Nat.le_refl _⟩, fun u hu _ => St.get_new_old hu⟩
    · obtain ⟨v', st', h1, h2, h3⟩ := h.grow (bytes := 1) hne (by rw [byteCells_length, byteCells_length]; simp only [roomLen]; omega)
      exact ⟨v', st', h1, .inr (by rw [byteCells_append]; exact h2), h3⟩
theorem AB.view {st : St} {v : PV} {s : List UInt8} (h : AB st v s) : ∃ v', View true st.get v v' ∧ BV v' s := by
  rcases h with rfl | ⟨rfl, h⟩ | ⟨t, g, rfl, hg, hlt⟩
  · exact ⟨_, (Pl.sl _ _ (pl_bytes s)).view, .sl s true⟩
  · have : s = [] := by simpa [byteCells] using h
    subst this
    exact ⟨.nilSl, .nilSl, .nil⟩
  · exact ⟨.sl (byteCells s) false, view_osl0 hg (.inl rfl) rfl (pl_bytes s), .sl s false⟩
theorem AB.okEls {t : List UInt8} : Go.AM.okEls 1 (byteCells t) = true := okEls_bytes t
end Go.AM
