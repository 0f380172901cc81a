/- The abstract machine: AM36: calls that are handed what is one's own: what they leave alone. · AM37: a variable of one's own, read in a drawn region with one loud operation. · AM38: readings of byte slices. -/
import Derived.Test.YtfdebgebnkbagaaDoorAmF
set_option linter.unusedVariables false
set_option linter.unusedSimpArgs false
namespace Go.AM
open Go.RowKit
theorem St.get_new {st : St} {k : Tok} : (st.new k).get st.next = some k := by simp [St.get, St.new, getA_putA]
theorem St.get_new_old {st : St} {k : Tok} {u : Nat} (h : u < st.next) : (st.new k).get u = st.get u := by
  simp only [St.get, St.new, getA_putA]
  rw [if_neg (by omega)]
theorem St.get_put {st : St} {t : Nat} {k : Tok} : (st.put t k).get t = some k := by simp [St.get, St.put, getA_putA]
theorem St.get_put_old {st : St} {t u : Nat} {k : Tok} (h : t ≠ u) : (st.put t k).get u = st.get u := by
  simp only [St.get, St.put, getA_putA]
  rw [if_neg h]
/-- A row that grew; all else that was there stands as it stood. -/
def Grow (st : St) (v : PV) (st' : St) (v' : PV) : Prop := st'.base = st.base ∧ st.next ≤ st'.next ∧ (tokOf v' = tokOf v ∨ ∃ n, tokOf v' = some n ∧ st.next ≤ n) ∧ ∀ u, u < st.next → tokOf v ≠ some u → st'.get u = st.get u
theorem Grow.refl (st : St) (v : PV) : Grow st v st v := ⟨rfl, Nat.le_refl _, .inl rfl, fun _ _ _ => rfl⟩
theorem Grow.trans {st st1 st2 : St} {v v1 v2 : PV} (h : Grow st v st1 v1) (k : Grow st1 v1 st2 v2) : Grow st v st2 v2 := by
  obtain ⟨a1, a2, a3, a4⟩ := h
  obtain ⟨b1, b2, b3, b4⟩ := k
  refine ⟨b1.trans a1, Nat.le_trans a2 b2, ?_, fun u hu hv => ?_⟩
  · rcases b3 with b3 | ⟨n, b3, b5⟩
    · rcases a3 with a3 | ⟨n, a3, a5⟩
      · exact .inl (b3.trans a3)
      · exact .inr ⟨n, b3.trans a3, a5⟩
    · exact .inr ⟨n, b3, by omega⟩
  · rw [b4 u (by omega) ?_, a4 u hu hv]
    rcases a3 with a3 | ⟨n, a3, a5⟩
    · rw [a3]; exact hv
    · rw [a3]; intro e; injection e; omega
theorem AccT.grow {sz bytes : Nat} {st : St} {v : PV} {es src : List (List PV)} (h : AccT sz st v es) (hne : src ≠ []) (hr : (es.length + src.length) * bytes ≤ roomLen) :
    ∃ v' st', appendTo st sz bytes v src = some (v', st') ∧ AccT sz st' v' (es ++ src) ∧ Grow st v st' v' := by
  obtain ⟨v', st', h1, h2, h3, h4, h5, h6⟩ := h.append hne hr
  refine ⟨v', st', h1, h2, h3, h4, ?_, fun u hu hv => h6 u ?_⟩
  · rcases h5 with h5 | ⟨_, h5⟩
    · exact .inl h5
    · exact .inr ⟨_, h5, Nat.le_refl _⟩
  · rcases h5 with h5 | ⟨_, h5⟩
    · rw [h5]; exact hv
    · rw [h5]; intro e; injection e; omega
theorem AccT.none_fresh {sz : Nat} {st st' : St} {v' : PV} {es : List (List PV)} (h : Grow st .nilSl st' v') (ha : AccT sz st' v' es) (hne : es ≠ []) : ∃ t, tokOf v' = some t ∧ st.next ≤ t := by
  rcases h.2.2.1 with h3 | ⟨n, h3, h4⟩
  · rcases ha with ⟨_, h5⟩ | ⟨t, g, rfl, _, _⟩
    · exact absurd h5 hne
    · cases h3
  · exact ⟨n, h3, h4⟩
/-- Bytes that are read, also out of what is one's own. -/
def RB (st : St) (v : PV) (s : List UInt8) : Prop := (v = .nilSl ∧ s = []) ∨ (∃ f, v = .sl (byteCells s) f) ∨ ∃ t g lv, v = .osl t g 0 (byteCells s).length false ∧ st.get t = some (.row g 1 (byteCells s) lv) ∧ t < st.next
theorem BV.rb {v : PV} {s : List UInt8} (h : BV v s) (st : St) : RB st v s := by
  cases h with
  | nil => exact .inl ⟨rfl, rfl⟩
  | sl s f => exact .inr (.inl ⟨f, rfl⟩)
theorem AccT.rb {st : St} {v : PV} {s : List UInt8} (h : AccT 1 st v (byteCells s)) : RB st v s := by
  rcases h with ⟨rfl, h⟩ | ⟨t, g, rfl, hg, hlt⟩
  · exact .inl ⟨rfl, by simpa [byteCells] using h⟩
  · exact .inr (.inr ⟨t, g, true, rfl, hg, hlt⟩)
theorem RB.src {st : St} {v : PV} {s : List UInt8} (h : RB st v s) : srcOf st v = some (byteCells s) := by
  rcases h with ⟨rfl, rfl⟩ | ⟨f, rfl⟩ | ⟨t, g, lv, rfl, hg, _⟩
  · rfl
  · rfl
  · simp only [srcOf, elemsOf, hg]
    rw [if_pos ⟨trivial, by omega⟩]
    simp
theorem RB.keep {st st' : St} {v : PV} {s : List UInt8} (h : RB st v s) (hn : st.next ≤ st'.next) (hk : ∀ u, tokOf v = some u → st'.get u = st.get u) : RB st' v s := by
  rcases h with ⟨rfl, rfl⟩ | ⟨f, rfl⟩ | ⟨t, g, lv, rfl, hg, hlt⟩
  · exact .inl ⟨rfl, rfl⟩
  · exact .inr (.inl ⟨f, rfl⟩)
  · exact .inr (.inr ⟨t, g, lv, rfl, by rw [hk t rfl]; exact hg, by omega⟩)
theorem RB.lt {st : St} {v : PV} {s : List UInt8} (h : RB st v s) {u : Nat} (hu : tokOf v = some u) : u < st.next := by
  rcases h with ⟨rfl, rfl⟩ | ⟨f, rfl⟩ | ⟨t, g, lv, rfl, hg, hlt⟩
  · cases hu
  · cases hu
  · injection hu with hu; omega
/-- A call that changes what it is handed, and what comes of it. -/
def EndsRQ (pf : PF) (Q : PV → St → Prop) : Post := fun x ρ st => (x = .normal ∨ x = .ret) ∧ ∃ r, resOf ρ st.get pf.results = some r ∧ Q r st
section
variable {T : Tb} {k : List Fr} {ρ : EC} {st : St} {l : List POp} {kill : List Nat}
theorem raw_VQ {f : Nat} {pf : PF} {args : List PV} {Q : PV → St → Prop} (hf : T.tbl f = some pf) (hn : Nat.ble args.length pf.ntmps = true) (h : V T (EndsRQ pf Q) [.code pf.body] .normal (ecFrom 0 args) st) : ∃ r st', T.R (.raw f args st r st') ∧ Q r st' := by
  obtain ⟨x, ρ, st1, h1, hx, r, h2, h3⟩ := h _ (sub_from 0 args)
  exact ⟨r, st1, .raw _ _ _ _ _ _ _ _ hf (Nat.le_of_ble_eq_true hn) h1 hx h2, h3⟩
theorem V_finRQ {pf : PF} {Q : PV → St → Prop} {r : PV} {x : EX} (ha : adv 200 k x = ([], .ret)) (hr : resG ρ st.get pf.results = some r) (hq : Q r st) : V T (EndsRQ pf Q) k x ρ st := V_end ha fun e he => ⟨.inr rfl, r, resG_eq he hr, hq⟩
/-- A call that is handed all that is one's own. -/
theorem O_rawAll {Q : Post} {d : Option Nat} {f : Opd} {xs : List Opd} {g : Nat} {caps vals : List PV} {r : PV} {st1 : St} (hc : T.R (.raw g (vals ++ caps) ⟨st.next, st.next, st.toks⟩ r st1)) (hb : st1.base = st.next) (hf : f.get ρ = some (.func g caps)) (hx : gets ρ xs = some vals) (h : VO T Q l kill k (ρ.sets d r) ⟨st.base, st1.next, st1.toks⟩) : VO T Q (⟨d, none, .call f xs⟩ :: l) kill k ρ st :=
  O_rawP [] st.toks hf hx (fun t => ⟨rfl, .inl rfl⟩) hb hc h
theorem O_loadV {Q : Post} {d : Option Nat} {a : Opd} {t off : Nat} {cs : List PV} {c : PV} (ha : a.get ρ = some (.ptr t off)) (hg : st.get t = some (.var cs)) (hc : cs[off]? = some c) (h : VO T Q l kill k (ρ.sets d c) st) : VO T Q (⟨d, none, .load 1 false a⟩ :: l) kill k ρ st :=
  O_step (by
    have hlt := (List.getElem?_eq_some_iff.1 hc).1
    simp only [stepQ, get1, ha, loadAt, behind, hg, Option.bind_some, slice?]
    rw [if_pos (by omega)]
    simpa using hc) h
end
/-- A state with another base. -/
theorem get_rebase {st : St} {b n : Nat} (u : Nat) : (⟨b, n, st.toks⟩ : St).get u = st.get u := rfl
end Go.AM

set_option linter.unusedVariables false
set_option linter.unusedSimpArgs false
namespace Go.AM
open Go.RowKit
section
variable {T : Tb} {Q : Post} {k : List Fr} {ρ : EC} {st A B : St} {l : List POp} {kill : List Nat} {m j : Nat}
theorem M_loadP {d : Option Nat} {a : Opd} {t n : Nat} {cs : List PV} (hk : Nat.beq j m = false) (hst : st = A ∨ st = B) (ha : a.get ρ = some (.ptr t 0)) (hgA : A.get t = some (.var cs)) (hgB : B.get t = some (.var cs)) (hl : cs.length = n) (h : VM T Q m A B (j + 1) l kill k (ρ.sets d (.agg cs)) st) : VM T Q m A B j (⟨d, none, .load n true a⟩ :: l) kill k ρ st := by
  have key : ∀ s : St, s.get t = some (.var cs) → stepQ s.get ρ (.load n true a) = some (.agg cs) := fun s hs => by
    simp only [stepQ, get1, ha, loadAt, behind, hs]
    subst hl
    simp [slice?]
  exact M_step hk hst (key A hgA) (key B hgB) h
theorem M_rawAll {d : Option Nat} {f : Opd} {xs : List Opd} {g : Nat} {caps vals : List PV} {r : PV} {st1 : St} (hc : T.R (.raw g (vals ++ caps) ⟨A.next, A.next, A.toks⟩ r st1)) (hb : st1.base = A.next) (hk : Nat.beq j m = true) (hf : f.get ρ = some (.func g caps)) (hx : gets ρ xs = some vals) (hB : (⟨A.base, st1.next, st1.toks⟩ : St) = B) (h : VM T Q m A B (j + 1) l kill k (ρ.sets d r) B) : VM T Q m A B j (⟨d, none, .call f xs⟩ :: l) kill k ρ A :=
  M_raw [] A.toks hk hf hx (fun t => ⟨rfl, .inl rfl⟩) hb hc hB h
end
end Go.AM

set_option linter.unusedVariables false
set_option linter.unusedSimpArgs false
namespace Go.AM
open Go.RowKit
theorem cells_bytes : ∀ (ns : List Int), (∀ n ∈ ns, IntKind.u8.min ≤ n ∧ n ≤ IntKind.u8.max) → ns.map (fun n => [PV.int .u8 n]) = byteCells (ns.map fun n => UInt8.ofNat n.toNat)
  | [], _ => rfl
  | n :: ns, h => by
    have ih := cells_bytes ns (fun m hm => h m (List.mem_cons_of_mem _ hm))
    have hn := h n List.mem_cons_self
    have h1 : IntKind.u8.min = 0 := rfl
    have h2 : IntKind.u8.max = 255 := rfl
    rw [h1, h2] at hn
    simp only [List.map_cons, byteCells] at ih ⊢
    rw [ih, cell_byte ⟨hn.1, by omega⟩]
theorem tv_bytes {H : Type} {P : Program} {t e : TypeId} {d : DataW H} {q : PV} (hu : P.underlying t = some (.slice e)) (he : P.underlying e = some (.int .u8)) (hp : 0 < P.cellsOf e) (h : TV P t d [q]) :
    ∃ s, BV q s ∧ ((d = .nil ∧ s = []) ∨ ∃ ds rest, d = .slice ds rest ∧ s.length = ds.length) := by
  rcases tv_slice hu hp h with ⟨rfl, e0⟩ | ⟨dl, rest, xs, full, rfl, e0, hlen, _, _, helems⟩
  · injection e0 with e0
    subst e0
    exact ⟨[], .nil, .inl ⟨rfl, rfl⟩⟩
  · injection e0 with e0
    subst e0
    obtain ⟨ns, rfl, hns⟩ := ints_of he hlen helems
    rw [cells_bytes ns hns]
    refine ⟨_, .sl _ full, .inr ⟨dl, rest, rfl, ?_⟩⟩
    rw [← hlen]
    simp
end Go.AM
