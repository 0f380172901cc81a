/- AM2: what it is for memory to read as the abstract machine's state; that this lasts. -/
import Derived.Test.YthoknkogdldgcaaAm1
set_option linter.unusedVariables false
set_option linter.unusedSimpArgs false
namespace Go.AM
open Go.RowKit

structure Loc where
  blk : Nat
  off : Nat
  cap : Nat
  sz : Nat
abbrev Gh := Nat → Nat → Option Loc
def cellAt (w : World) (b o : Nat) : Option Value := w.cell? ⟨b, o, none⟩

inductive Rep (G : Gh) (own : Nat → Prop) (w : World) : Value → PV → Prop
  | junk (v) : Rep G own w v .junk
  | bool (b) : Rep G own w (.bool b) (.bool b)
  | int (k n) : Rep G own w (.int k n) (.int k n)
  | str (s) : Rep G own w (.string ⟨s.toArray⟩) (.str s)
  | nilPtr : Rep G own w (.pointer none) .nilPtr
  | ptr (t off L) (h : G t 0 = some L) : Rep G own w (.pointer (some ⟨L.blk, L.off + off, none⟩)) (.ptr t off)
  | rptr (t g i off L) (h : G t g = some L) : Rep G own w (.pointer (some ⟨L.blk, L.off + i * L.sz + off, none⟩)) (.rptr t g i off)
  | iptr (cells off b o) (u : Nat → Value) (hc : ∀ (i : Nat) (c : PV), cells[i]? = some c → cellAt w b (o + i) = some (u i) ∧ ¬ own b) (hr : ∀ (i : Nat) (c : PV), cells[i]? = some c → Rep G own w (u i) c) :
      Rep G own w (.pointer (some ⟨b, o + off, none⟩)) (.iptr cells off)
  | nilSl : Rep G own w (.slice none 0 0) .nilSl
  | sl (xs full b o cap sz) (adr : Addr) (u : Nat → Nat → Value) (hcap : xs.length ≤ cap) (hfull : full = true → cap = xs.length) (hadr : 0 < cap → adr = ⟨b, o, none⟩)
      (hsz : ∀ (j : Nat) (cs : List PV), xs[j]? = some cs → cs.length = sz)
      (hc : ∀ (j : Nat) (cs : List PV) (i : Nat) (c : PV), xs[j]? = some cs → cs[i]? = some c → cellAt w b (o + j * sz + i) = some (u j i) ∧ ¬ own b)
      (hr : ∀ (j : Nat) (cs : List PV) (i : Nat) (c : PV), xs[j]? = some cs → cs[i]? = some c → Rep G own w (u j i) c) :
      Rep G own w (.slice (some adr) xs.length cap) (.sl xs full)
  | osl (t g off len full L cap a) (h : G t g = some L) (hcap : len ≤ cap) (hL : off + cap ≤ L.cap) (hfull : full = true → cap = len) (ha : 0 < cap → a = ⟨L.blk, L.off + off * L.sz, none⟩) (hs : a.spot = none) :
      Rep G own w (.slice (some a) len cap) (.osl t g off len full)
  | vsl (t off sz len L cap a) (h : G t 0 = some L) (hcap : len ≤ cap) (ha : 0 < len → a = ⟨L.blk, L.off + off, none⟩) (hs : a.spot = none) :
      Rep G own w (.slice (some a) len cap) (.vsl t off sz len)
  | func (f) (caps : List PV) (vs : Array Value) (hs : vs.size = caps.length) (h : ∀ (i : Nat) (c : PV), caps[i]? = some c → Rep G own w (vs.getD i undef) c) :
      Rep G own w (.func (.func f) #[] vs) (.func f caps)
  | nilFunc : Rep G own w .nilFunc .nilFunc
  | iface (ty v p) (h : Rep G own w v p) : Rep G own w (.iface ty v) (.iface ty p)
  | nilIface : Rep G own w .nilIface .nilIface
  | agg (cs : List PV) (vs : Array Value) (hs : vs.size = cs.length) (h : ∀ (i : Nat) (c : PV), cs[i]? = some c → Rep G own w (vs.getD i undef) c) :
      Rep G own w (.agg vs) (.agg cs)
  | tuple (cs : List PV) (vs : Array Value) (hs : vs.size = cs.length) (h : ∀ (i : Nat) (c : PV), cs[i]? = some c → Rep G own w (vs.getD i undef) c) :
      Rep G own w (.tuple vs) (.tuple cs)

/-- Only blocks of S may have turned; nothing has gone. -/
structure Chg (S : Nat → Prop) (w w' : World) : Prop where
  os : w'.os = w.os
  tape : w'.tape = w.tape
  output : w'.output = w.output
  size : w.heap.size ≤ w'.heap.size
  block : ∀ b, b < w.heap.size → ¬ S b → w'.heap[b]? = w.heap[b]?

theorem Chg.refl (S : Nat → Prop) (w : World) : Chg S w w := ⟨rfl, rfl, rfl, Nat.le_refl _, fun _ _ _ => rfl⟩
theorem Chg.trans {S S' : Nat → Prop} {a b c : World} (h : Chg S a b) (k : Chg S' b c) (hs : ∀ i, i < a.heap.size → S' i → S i) : Chg S a c :=
  ⟨k.os.trans h.os, k.tape.trans h.tape, k.output.trans h.output, Nat.le_trans h.size k.size,
    fun i hi hn => (k.block i (Nat.lt_of_lt_of_le hi h.size) (fun hc => hn (hs i hi hc))).trans (h.block i hi hn)⟩
theorem Chg.mono {S S' : Nat → Prop} {a b : World} (h : Chg S a b) (hs : ∀ i, i < a.heap.size → S i → S' i) : Chg S' a b :=
  ⟨h.os, h.tape, h.output, h.size, fun i hi hn => h.block i hi (fun hc => hn (hs i hi hc))⟩
theorem Chg.below {w w' : World} (h : Chg (fun _ => False) w w') : Below w.heap.size w w' := ⟨h.os, h.tape, h.output, h.size, fun k hk => h.block k hk (fun h => h)⟩
theorem chg_of_below {S : Nat → Prop} {w w' : World} (h : Below w.heap.size w w') : Chg S w w' := ⟨h.os, h.tape, h.output, h.size, fun k hk _ => h.block k hk⟩

theorem cellAt_lt {w : World} {b o : Nat} {v : Value} (h : cellAt w b o = some v) : b < w.heap.size := World.block_lt_of_cell? w ⟨b, o, none⟩ h
theorem cellAt_congr {w w' : World} {b : Nat} (h : w'.heap[b]? = w.heap[b]?) (o : Nat) : cellAt w' b o = cellAt w b o := by
  unfold cellAt World.cell?
  simp only [h]
theorem frozen_congr {w w' : World} {b : Nat} (h : w'.heap[b]? = w.heap[b]?) (o : Nat) : w'.frozen? ⟨b, o, none⟩ = w.frozen? ⟨b, o, none⟩ := by
  unfold World.frozen?
  simp only [h]
theorem Chg.cell {S : Nat → Prop} {w w' : World} (h : Chg S w w') {b o : Nat} {v : Value} (hc : cellAt w b o = some v) (hn : ¬ S b) : cellAt w' b o = some v := by
  rw [cellAt_congr (h.block b (cellAt_lt hc) hn)]; exact hc

theorem Rep.mono {G G' : Gh} {own own' S : Nat → Prop} {w w' : World} (hG : ∀ t g L, G t g = some L → G' t g = some L) (hS : Chg S w w') (hSo : ∀ b, S b → own b)
    (ho : ∀ b, own' b → own b ∨ w.heap.size ≤ b) {v : Value} {p : PV} (h : Rep G own w v p) : Rep G' own' w' v p := by
  have key : ∀ {b o : Nat} {u : Value}, cellAt w b o = some u ∧ ¬ own b → cellAt w' b o = some u ∧ ¬ own' b := by
    intro b o u ⟨h1, h2⟩
    refine ⟨hS.cell h1 (fun hs => h2 (hSo b hs)), fun h3 => ?_⟩
    rcases ho b h3 with h4 | h4
    · exact h2 h4
    · have := cellAt_lt h1; omega
  induction h with
  | junk v => exact .junk v
  | bool b => exact .bool b
  | int k n => exact .int k n
  | str s => exact .str s
  | nilPtr => exact .nilPtr
  | ptr t off L h => exact .ptr t off L (hG _ _ _ h)
  | rptr t g i off L h => exact .rptr t g i off L (hG _ _ _ h)
  | iptr cells off b o u hc hr ih => exact .iptr cells off b o u (fun i c hi => key (hc i c hi)) ih
  | nilSl => exact .nilSl
  | sl xs full b o cap sz adr u hcap hfull hadr hsz hc hr ih => exact .sl xs full b o cap sz adr u hcap hfull hadr hsz (fun j cs i c hj hi => key (hc j cs i c hj hi)) ih
  | osl t g off len full L cap a h hcap hL hfull ha hs => exact .osl t g off len full L cap a (hG _ _ _ h) hcap hL hfull ha hs
  | vsl t off sz len L cap a h hcap ha hs => exact .vsl t off sz len L cap a (hG _ _ _ h) hcap ha hs
  | func f caps vs hs h ih => exact .func f caps vs hs ih
  | nilFunc => exact .nilFunc
  | iface ty v p h ih => exact .iface ty v p ih
  | nilIface => exact .nilIface
  | agg cs vs hs h ih => exact .agg cs vs hs ih
  | tuple cs vs hs h ih => exact .tuple cs vs hs ih

def CellsAt (G : Gh) (own : Nat → Prop) (w : World) (b o : Nat) (cells : List PV) : Prop :=
  ∀ (i : Nat) (p : PV), cells[i]? = some p → ∃ v, cellAt w b (o + i) = some v ∧ Rep G own w v p
def Room (w : World) (b lo hi : Nat) : Prop := ∀ o, lo ≤ o → o < hi → (∃ v, cellAt w b o = some v) ∧ w.frozen? ⟨b, o, none⟩ = false

def Tok.gen : Tok → Nat
  | .var _ => 0
  | .row g _ _ _ => g
def Tok.live : Tok → Bool
  | .var _ => true
  | .row _ _ _ l => l

def TokRep (G : Gh) (own : Nat → Prop) (w : World) (t : Nat) : Tok → Prop
  | .var cells => ∃ L, G t 0 = some L ∧ Room w L.blk L.off (L.off + cells.length) ∧ CellsAt G own w L.blk L.off cells
  | .row g sz es live => ∃ L, G t g = some L ∧ L.sz = sz ∧ es.length ≤ L.cap ∧ Room w L.blk L.off (L.off + L.cap * sz) ∧
      (∀ (j : Nat) (cs : List PV), es[j]? = some cs → cs.length = sz ∧ CellsAt G own w L.blk (L.off + j * sz) cs) ∧ (live = false → ¬ own L.blk)

def Own (st : St) (G : Gh) (b : Nat) : Prop := ∃ t k L, st.get t = some k ∧ k.live = true ∧ G t k.gen = some L ∧ L.blk = b

/-- What a run must leave alone: the world at its beginning, what of it was one's own, what is another's. -/
structure Cx where
  w0 : World
  G0 : Gh
  own0 : Nat → Prop
  F : Nat → Prop
  T0 : Nat → Prop

def OwnF (X : Cx) (st : St) (G : Gh) (b : Nat) : Prop := X.F b ∨ Own st G b

structure Inv (X : Cx) (st : St) (G : Gh) (w : World) : Prop where
  low : ∀ t g L, G t g = some L → t < st.next ∧ L.blk < w.heap.size
  base : st.base ≤ st.next
  old : ∀ t g L, X.G0 t g = some L → t < st.base ∧ G t g = some L
  toks : ∀ t k, st.get t = some k → TokRep G (OwnF X st G) w t k
  gens : ∀ t k g L, st.get t = some k → G t g = some L → g ≤ k.gen
  inj : ∀ t t' k k' L L', st.get t = some k → st.get t' = some k' → k.live = true → k'.live = true → G t k.gen = some L → G t' k'.gen = some L' → L.blk = L'.blk → t = t'
  newg : ∀ t g L, G t g = some L → X.G0 t g = some L ∨ X.T0 t ∨ st.base ≤ t
  dom : ∀ t k, st.get t = some k → X.T0 t ∨ st.base ≤ t
  frame : Chg X.own0 X.w0 w
  ownb : ∀ b, Own st G b → X.own0 b ∨ X.w0.heap.size ≤ b
  foreign : ∀ b, X.F b → b < X.w0.heap.size ∧ ¬ X.own0 b

theorem Inv.f_own {X : Cx} {st : St} {G : Gh} {w : World} (h : Inv X st G w) {b : Nat} (hf : X.F b) : ¬ Own st G b := by
  intro ho
  have h1 := h.foreign b hf
  rcases h.ownb b ho with h2 | h2
  · exact h1.2 h2
  · omega

structure EnvRep (G : Gh) (own : Nat → Prop) (w : World) (n : Nat) (ρ : Env) (a : Act) : Prop where
  defers : a.defers = []
  size : a.tmps.size = n
  reps : ∀ t p, getA t ρ = some p → Rep G own w (a.tmps.getD t undef) p

/-- From one state of memory to a later one. -/
structure Later (X : Cx) (st : St) (G : Gh) (w : World) (st' : St) (G' : Gh) (w' : World) : Prop where
  gh : ∀ t g L, G t g = some L → G' t g = some L
  chg : Chg (Own st G) w w'
  own : ∀ b, OwnF X st' G' b → OwnF X st G b ∨ w.heap.size ≤ b

theorem Later.refl (X : Cx) (st : St) (G : Gh) (w : World) : Later X st G w st G w := ⟨fun _ _ _ h => h, Chg.refl _ _, fun _ h => .inl h⟩
theorem Later.rep {X : Cx} {st st' : St} {G G' : Gh} {w w' : World} (h : Later X st G w st' G' w') {v : Value} {p : PV} (hr : Rep G (OwnF X st G) w v p) : Rep G' (OwnF X st' G') w' v p :=
  hr.mono h.gh h.chg (fun b hb => .inr hb) h.own
theorem Later.trans {X : Cx} {st st1 st2 : St} {G G1 G2 : Gh} {w w1 w2 : World} (hi : Inv X st G w) (h : Later X st G w st1 G1 w1) (hi1 : Inv X st1 G1 w1) (k : Later X st1 G1 w1 st2 G2 w2) : Later X st G w st2 G2 w2 := by
  refine ⟨fun t g L hh => k.gh _ _ _ (h.gh _ _ _ hh), h.chg.trans k.chg ?_, ?_⟩
  · intro b hb ho
    rcases h.own b (.inr ho) with h1 | h1
    · rcases h1 with h1 | h1
      · exact absurd ho (hi1.f_own h1)
      · exact h1
    · omega
  · intro b hb
    rcases k.own b hb with h1 | h1
    · exact h.own b h1
    · exact .inr (Nat.le_trans h.chg.size h1)
theorem Later.env {X : Cx} {st st' : St} {G G' : Gh} {w w' : World} (h : Later X st G w st' G' w') {n : Nat} {ρ : Env} {a : Act} (he : EnvRep G (OwnF X st G) w n ρ a) : EnvRep G' (OwnF X st' G') w' n ρ a :=
  ⟨he.defers, he.size, fun t p hp => h.rep (he.reps t p hp)⟩
theorem EnvRep.put {G : Gh} {own : Nat → Prop} {w : World} {n : Nat} {ρ : Env} {a : Act} (h : EnvRep G own w n ρ a) {d : Option Nat} (hd : ∀ t, d = some t → t < n) {v : Value} {p : PV} (hr : Rep G own w v p) :
    EnvRep G own w n (ρ.put d p) (a.put d v) := by
  cases d with
  | none => exact h
  | some t =>
    have ht := hd t rfl
    refine ⟨h.defers, by simp [Act.put, h.size], fun u q hq => ?_⟩
    simp only [Env.put, getA_putA] at hq
    simp only [Act.put, Array.getD_eq_getD_getElem?, Array.getElem?_setIfInBounds]
    split at hq
    · rename_i e
      subst e
      injection hq with hq
      subst hq
      simp [h.size, ht]
      exact hr
    · rename_i e
      rw [if_neg e]
      have := h.reps u q hq
      rwa [Array.getD_eq_getD_getElem?] at this
theorem EnvRep.at {G : Gh} {own : Nat → Prop} {w : World} {n : Nat} {ρ : Env} {a : Act} (h : EnvRep G own w n ρ a) (t : Nat) : Rep G own w (a.tmps.getD t undef) (ρ.at t) := by
  unfold Env.at
  cases hg : getA t ρ with
  | none => exact .junk _
  | some p => exact h.reps t p hg

end Go.AM
