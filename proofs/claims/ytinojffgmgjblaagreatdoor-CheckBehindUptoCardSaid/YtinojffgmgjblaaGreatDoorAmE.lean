/- The abstract machine: AM23: a run, found step by step. · AM24: steps that reckon themselves. · AM25: what the rows hand in, as plain values. · AM26: the arguments of a row; reading again behind the call. · AM27: the words of arithmetic; the table; plain equations. · AM28: loops told apart; rows of one's own that grow. · AM29: slices that are read; bytes. · AM30: lists in slices: read, grown, cut. · AM31: stepping through a drawn region with one loud operation. -/
import Derived.Test.YtinojffgmgjblaaGreatDoorAmD
import Derived.WalkKit
import Derived.ProofKit
import Derived.OpenShut
import Derived.ChangeOld
import Derived.SizedLaws
import Derived.ChangeBears
import Derived.Carry
set_option linter.unusedSectionVars false
set_option linter.unusedVariables false
set_option linter.unusedSimpArgs false
namespace Go.AM
open Go.RowKit
structure Tb where
  tbl : Nat → Option PF
  prim : Nat → List PV → PV → Prop
  ext : Nat → List PV → PV → Prop
abbrev Tb.R (T : Tb) (j : J) : Prop := Run T.tbl T.prim T.ext j
inductive Fr where
  | code (c : PC)
  | block (id : Nat)
abbrev Post := EX → Env → St → Prop
def W (T : Tb) (Q : Post) : List Fr → EX → Env → St → Prop
  | [], x, ρ, st => Q x ρ st
  | .code c :: k, .normal, ρ, st => ∃ x1 ρ1 st1, T.R (.code c ρ st x1 ρ1 st1) ∧ W T Q k x1 ρ1 st1
  | .code c :: k, .exit i, ρ, st => W T Q k (.exit i) ρ st
  | .code c :: k, .ret, ρ, st => W T Q k .ret ρ st
  | .block id :: k, x, ρ, st => W T Q k (if x = .exit id then .normal else x) ρ st
def O (T : Tb) (Q : Post) (l : List POp) (kill : List Nat) (k : List Fr) (ρ : Env) (st : St) : Prop :=
  ∃ ρ1 st1, T.R (.ops l ρ st ρ1 st1) ∧ W T Q k .normal (dropA kill ρ1) st1
def D (T : Tb) (Q : Post) (l : List POp) (kill : List Nat) (k : List Fr) (ρ : Env) (st : St) : Prop :=
  ∃ ρ1, T.R (.drawn l ρ st ρ1) ∧ W T Q k .normal (dropA kill ρ1) st
section
variable {T : Tb} {Q : Post} {k : List Fr} {ρ : Env} {st : St} {l : List POp} {kill : List Nat}
theorem W_skip (h : W T Q k .normal ρ st) : W T Q (.code .skip :: k) .normal ρ st := ⟨_, _, _, .skip _ _, h⟩
theorem W_seq {a b : PC} (h : W T Q (.code a :: .code b :: k) .normal ρ st) : W T Q (.code (.seq a b) :: k) .normal ρ st := by
  obtain ⟨x1, ρ1, st1, h1, h2⟩ := h
  cases x1 with
  | normal =>
    obtain ⟨x2, ρ2, st2, h3, h4⟩ := h2
    exact ⟨_, _, _, .seqN _ _ _ _ _ _ _ _ _ h1 h3, h4⟩
  | exit i => exact ⟨_, _, _, .seqX _ _ _ _ _ _ _ (by simp) h1, h2⟩
  | ret => exact ⟨_, _, _, .seqX _ _ _ _ _ _ _ (by simp) h1, h2⟩
theorem W_cond {c : Opd} {a b : PC} {t : Bool} (hc : c.ev ρ = .bool t) (h : W T Q (.code (if t then a else b) :: k) .normal ρ st) : W T Q (.code (.cond c a b) :: k) .normal ρ st := by
  obtain ⟨x1, ρ1, st1, h1, h2⟩ := h
  exact ⟨_, _, _, .cond _ _ _ _ _ _ _ _ _ hc h1, h2⟩
theorem W_block {id : Nat} {c : PC} (h : W T Q (.code c :: .block id :: k) .normal ρ st) : W T Q (.code (.block id c) :: k) .normal ρ st := by
  obtain ⟨x1, ρ1, st1, h1, h2⟩ := h
  exact ⟨_, _, _, .block _ _ _ _ _ _ _ h1, h2⟩
theorem W_exit {id : Nat} (h : W T Q k (.exit id) ρ st) : W T Q (.code (.exit id) :: k) .normal ρ st := ⟨_, _, _, .exit _ _ _, h⟩
theorem W_ret (h : W T Q k .ret ρ st) : W T Q (.code .ret :: k) .normal ρ st := ⟨_, _, _, .ret _ _, h⟩
theorem W_blockN {id : Nat} (h : W T Q k .normal ρ st) : W T Q (.block id :: k) .normal ρ st := h
theorem W_blockR {id : Nat} (h : W T Q k .ret ρ st) : W T Q (.block id :: k) .ret ρ st := h
theorem W_blockE {id : Nat} (h : W T Q k .normal ρ st) : W T Q (.block id :: k) (.exit id) ρ st := by
  simp only [W, if_true]
  exact h
theorem W_blockO {id i : Nat} (hi : i ≠ id) (h : W T Q k (.exit i) ρ st) : W T Q (.block id :: k) (.exit i) ρ st := by
  have : (EX.exit i = EX.exit id) = False := by simp [hi]
  simp only [W, this, if_false]
  exact h
theorem W_loop {c : PC} (h : W T Q (.code c :: .code (.loop c) :: k) .normal ρ st) : W T Q (.code (.loop c) :: k) .normal ρ st := by
  obtain ⟨x1, ρ1, st1, h1, h2⟩ := h
  cases x1 with
  | normal =>
    obtain ⟨x2, ρ2, st2, h3, h4⟩ := h2
    exact ⟨_, _, _, .loopN _ _ _ _ _ _ _ _ h1 h3, h4⟩
  | exit i => exact ⟨_, _, _, .loopX _ _ _ _ _ _ (by simp) h1, h2⟩
  | ret => exact ⟨_, _, _, .loopX _ _ _ _ _ _ (by simp) h1, h2⟩
theorem W_weak {c : PC} {ρ' : Env} {st' : St} (hw : Weak ρ st ρ' st') (h : W T Q (.code c :: k) .normal ρ' st') : W T Q (.code c :: k) .normal ρ st := by
  obtain ⟨x1, ρ1, st1, h1, h2⟩ := h
  exact ⟨_, _, _, .weak _ _ _ _ _ _ _ _ hw h1, h2⟩
theorem W_mono {Q' : Post} (hQ : ∀ x ρ st, Q x ρ st → Q' x ρ st) : ∀ (k : List Fr) (x : EX) (ρ : Env) (st : St), W T Q k x ρ st → W T Q' k x ρ st
  | [], x, ρ, st, h => hQ x ρ st h
  | .code c :: k, .normal, ρ, st, ⟨x1, ρ1, st1, h1, h2⟩ => ⟨x1, ρ1, st1, h1, W_mono hQ k _ _ _ h2⟩
  | .code c :: k, .exit i, ρ, st, h => W_mono hQ k _ _ _ h
  | .code c :: k, .ret, ρ, st, h => W_mono hQ k _ _ _ h
  | .block id :: k, x, ρ, st, h => W_mono hQ k _ _ _ h
theorem W_cut {Q' : Post} {c : PC} (h : W T Q' [.code c] .normal ρ st) (hk : ∀ x ρ' st', Q' x ρ' st' → W T Q k x ρ' st') : W T Q (.code c :: k) .normal ρ st := by
  obtain ⟨x1, ρ1, st1, h1, h2⟩ := h
  exact ⟨_, _, _, h1, hk _ _ _ h2⟩
theorem W_ops (h : O T Q l kill k ρ st) : W T Q (.code (.ops l kill) :: k) .normal ρ st := by
  obtain ⟨ρ1, st1, h1, h2⟩ := h
  exact ⟨_, _, _, .ops _ _ _ _ _ _ h1, h2⟩
theorem W_drawn (h : D T Q l kill k ρ st) : W T Q (.code (.drawn l kill) :: k) .normal ρ st := by
  obtain ⟨ρ1, h1, h2⟩ := h
  exact ⟨_, _, _, .drawn _ _ _ _ _ h1, h2⟩
theorem O_nil (h : W T Q k .normal (dropA kill ρ) st) : O T Q [] kill k ρ st := ⟨_, _, .opsNil _ _, h⟩
theorem D_nil (h : W T Q k .normal (dropA kill ρ) st) : D T Q [] kill k ρ st := ⟨_, .drawnNil _ _, h⟩
theorem O_q {d : Option Nat} {op : PI} {p : PV} (hq : quiet st.get (Opd.ev ρ) op = some p) (h : O T Q l kill k (Env.put ρ d p) st) : O T Q (⟨d, none, op⟩ :: l) kill k ρ st := by
  obtain ⟨ρ1, st1, h1, h2⟩ := h
  exact ⟨_, _, .opsQuiet _ _ _ _ _ _ _ rfl hq h1, h2⟩
theorem O_l {d : Option Nat} {op : PI} {p : PV} {st' : St} (hq : loud st (Opd.ev ρ) op = some (p, st')) (h : O T Q l kill k (Env.put ρ d p) st') : O T Q (⟨d, none, op⟩ :: l) kill k ρ st := by
  obtain ⟨ρ1, st1, h1, h2⟩ := h
  exact ⟨_, _, .opsLoud _ _ _ _ _ _ _ _ rfl hq h1, h2⟩
theorem O_g {d : Option Nat} {op : PI} {t : Nat} {want b : Bool} (hg : getA t ρ = some (.bool b)) (h1 : b = want → O T Q (⟨d, none, op⟩ :: l) kill k ρ st) (h2 : b ≠ want → O T Q l kill k (Env.put ρ d (.tuple [])) st) : O T Q (⟨d, some (t, want), op⟩ :: l) kill k ρ st := by
  by_cases h : b = want
  · obtain ⟨ρ1, st1, h3, h4⟩ := h1 h
    refine ⟨ρ1, st1, ?_, h4⟩
    have hg' : gd (getA · ρ) (some (t, want)) = some true := by simp [gd, hg, h]
    cases h3 with
    | opsSkip _ _ _ _ _ _ g _ => cases g
    | opsQuiet _ _ _ _ p _ _ g q r => exact .opsQuiet _ _ _ _ _ _ _ hg' q r
    | opsLoud _ _ _ _ p st1 _ _ g q r => exact .opsLoud _ _ _ _ _ _ _ _ hg' q r
    | opsCall _ _ _ _ f xs g caps args rr _ _ gg ho hf hv hc hh => exact .opsCall _ _ _ _ _ _ _ _ _ _ _ _ hg' ho hf hv hc hh
    | opsCallS _ _ _ _ f xs g caps args rr _ _ gg ho hf hv hr hc hh => exact .opsCallS _ _ _ _ _ _ _ _ _ _ _ _ hg' ho hf hv hr hc hh
    | opsCallW _ _ _ _ r0 s0 f xs g caps args rr _ _ gg ho hw hf hv hc hh => exact .opsCallW _ _ _ _ _ _ _ _ _ _ _ _ _ _ hg' ho hw hf hv hc hh
    | opsExt _ _ _ _ f xs g caps args rr _ _ gg ho hf hv hr hc hh => exact .opsExt _ _ _ _ _ _ _ _ _ _ _ _ hg' ho hf hv hr hc hh
    | opsRaw _ _ _ _ f xs g caps q τ rr st1 _ _ gg ho hf hp hb hc hh => exact .opsRaw _ _ _ _ _ _ _ _ _ _ _ _ _ _ hg' ho hf hp hb hc hh
  · obtain ⟨ρ1, st1, h3, h4⟩ := h2 h
    exact ⟨_, _, .opsSkip _ _ _ _ _ _ (by simp [gd, hg, h]) h3, h4⟩
theorem O_gT {d : Option Nat} {op : PI} {t : Nat} {want : Bool} (hg : getA t ρ = some (.bool want)) (h1 : O T Q (⟨d, none, op⟩ :: l) kill k ρ st) : O T Q (⟨d, some (t, want), op⟩ :: l) kill k ρ st := O_g hg (fun _ => h1) (fun h => (h rfl).elim)
theorem O_gF {d : Option Nat} {op : PI} {t : Nat} {want b : Bool} (hg : getA t ρ = some (.bool b)) (hb : b ≠ want) (h2 : O T Q l kill k (Env.put ρ d (.tuple [])) st) : O T Q (⟨d, some (t, want), op⟩ :: l) kill k ρ st := O_g hg (fun h => (hb h).elim) (fun _ => h2)
theorem O_gU {d : Option Nat} {op : PI} {t : Nat} {want : Bool} (hg : getA t ρ = some (.tuple [])) (h2 : O T Q l kill k (Env.put ρ d (.tuple [])) st) : O T Q (⟨d, some (t, want), op⟩ :: l) kill k ρ st := by
  obtain ⟨ρ1, st1, h3, h4⟩ := h2
  exact ⟨_, _, .opsSkip _ _ _ _ _ _ (by simp [gd, hg]) h3, h4⟩
theorem O_call {d : Option Nat} {f : Opd} {xs : List Opd} {g : Nat} {caps args : List PV} {r : PV} (hf : f.ev ρ = .func g caps) (hv : ViewL false st.get (xs.map (Opd.ev ρ) ++ caps) args) (hc : T.R (.call g args r)) (h : O T Q l kill k (Env.put ρ d r) st) : O T Q (⟨d, none, .call f xs⟩ :: l) kill k ρ st := by
  obtain ⟨ρ1, st1, h1, h2⟩ := h
  exact ⟨_, _, .opsCall _ _ _ _ _ _ _ _ _ _ _ _ rfl rfl hf hv hc h1, h2⟩
theorem O_callS {d : Option Nat} {f : Opd} {xs : List Opd} {g : Nat} {caps args : List PV} {r : PV} (hf : f.ev ρ = .func g caps) (hv : ViewL true st.get (xs.map (Opd.ev ρ) ++ caps) args) (hr : scalarR r = true) (hc : T.R (.call g args r)) (h : O T Q l kill k (Env.put ρ d r) st) : O T Q (⟨d, none, .call f xs⟩ :: l) kill k ρ st := by
  obtain ⟨ρ1, st1, h1, h2⟩ := h
  exact ⟨_, _, .opsCallS _ _ _ _ _ _ _ _ _ _ _ _ rfl rfl hf hv hr hc h1, h2⟩
theorem O_ext {d : Option Nat} {f : Opd} {xs : List Opd} {g : Nat} {caps args : List PV} {r : PV} (hf : f.ev ρ = .func g caps) (hv : ViewL true st.get (xs.map (Opd.ev ρ) ++ caps) args) (hr : scalarR r = true) (hc : T.ext g args r) (h : O T Q l kill k (Env.put ρ d r) st) : O T Q (⟨d, none, .call f xs⟩ :: l) kill k ρ st := by
  obtain ⟨ρ1, st1, h1, h2⟩ := h
  exact ⟨_, _, .opsExt _ _ _ _ _ _ _ _ _ _ _ _ rfl rfl hf hv hr hc h1, h2⟩
theorem O_raw {d : Option Nat} {f : Opd} {xs : List Opd} {g : Nat} {caps : List PV} {q τ : List (Nat × Tok)} {r : PV} {st1 : St} (hf : f.ev ρ = .func g caps) (hp : Parts st q τ) (hb : st1.base = st.next) (hc : T.R (.raw g (xs.map (Opd.ev ρ) ++ caps) (partSt st τ) r st1)) (h : O T Q l kill k (Env.put ρ d r) (joinSt st q st1)) : O T Q (⟨d, none, .call f xs⟩ :: l) kill k ρ st := by
  obtain ⟨ρ1, st2, h1, h2⟩ := h
  exact ⟨_, _, .opsRaw _ _ _ _ _ _ _ _ _ _ _ _ _ _ rfl rfl hf hp hb hc h1, h2⟩
theorem D_q {d : Option Nat} {op : PI} {p : PV} (hq : quiet st.get (Opd.ev ρ) op = some p) (h : D T Q l kill k (Env.put ρ d p) st) : D T Q (⟨d, none, op⟩ :: l) kill k ρ st := by
  obtain ⟨ρ1, h1, h2⟩ := h
  exact ⟨_, .drawnQuiet _ _ _ _ _ _ rfl hq h1, h2⟩
theorem D_g {d : Option Nat} {op : PI} {t : Nat} {want b : Bool} (hg : getA t ρ = some (.bool b)) (h1 : b = want → D T Q (⟨d, none, op⟩ :: l) kill k ρ st) (h2 : b ≠ want → D T Q l kill k (Env.put ρ d (.tuple [])) st) : D T Q (⟨d, some (t, want), op⟩ :: l) kill k ρ st := by
  by_cases h : b = want
  · obtain ⟨ρ1, h3, h4⟩ := h1 h
    refine ⟨ρ1, ?_, h4⟩
    have hg' : gd (getA · ρ) (some (t, want)) = some true := by simp [gd, hg, h]
    cases h3 with
    | drawnSkip _ _ _ _ _ g _ => cases g
    | drawnQuiet _ _ _ _ p _ g q r => exact .drawnQuiet _ _ _ _ _ _ hg' q r
    | drawnCall _ _ _ _ f xs g caps args rr _ gg ho hf hv hc hh => exact .drawnCall _ _ _ _ _ _ _ _ _ _ _ hg' ho hf hv hc hh
    | drawnCallS _ _ _ _ f xs g caps args rr _ gg ho hf hv hr hc hh => exact .drawnCallS _ _ _ _ _ _ _ _ _ _ _ hg' ho hf hv hr hc hh
  · obtain ⟨ρ1, h3, h4⟩ := h2 h
    exact ⟨_, .drawnSkip _ _ _ _ _ (by simp [gd, hg, h]) h3, h4⟩
theorem D_gU {d : Option Nat} {op : PI} {t : Nat} {want : Bool} (hg : getA t ρ = some (.tuple [])) (h2 : D T Q l kill k (Env.put ρ d (.tuple [])) st) : D T Q (⟨d, some (t, want), op⟩ :: l) kill k ρ st := by
  obtain ⟨ρ1, h3, h4⟩ := h2
  exact ⟨_, .drawnSkip _ _ _ _ _ (by simp [gd, hg]) h3, h4⟩
theorem D_call {d : Option Nat} {f : Opd} {xs : List Opd} {g : Nat} {caps args : List PV} {r : PV} (hf : f.ev ρ = .func g caps) (hv : ViewL false st.get (xs.map (Opd.ev ρ) ++ caps) args) (hc : T.R (.call g args r)) (h : D T Q l kill k (Env.put ρ d r) st) : D T Q (⟨d, none, .call f xs⟩ :: l) kill k ρ st := by
  obtain ⟨ρ1, h1, h2⟩ := h
  exact ⟨_, .drawnCall _ _ _ _ _ _ _ _ _ _ _ rfl rfl hf hv hc h1, h2⟩
end
def Ends (pf : PF) (Q : PV → Prop) : Post := fun x ρ st => (x = .normal ∨ x = .ret) ∧ ∃ r0 r, resOf ρ st.get pf.results = some r0 ∧ View true st.get r0 r ∧ Q r
theorem call_of {T : Tb} {f : Nat} {pf : PF} {args : List PV} {Q : PV → Prop} (hf : T.tbl f = some pf) (hn : args.length ≤ pf.ntmps) (h : W T (Ends pf Q) [.code pf.body] .normal (envFrom 0 args) emptySt) : ∃ r, T.R (.call f args r) ∧ Q r := by
  obtain ⟨x, ρ, st, h1, hx, r0, r, h2, h3, h4⟩ := h
  exact ⟨r, .call _ _ _ _ _ _ _ _ hf hn h1 hx h2 h3, h4⟩
theorem call_is {T : Tb} {f : Nat} {pf : PF} {args : List PV} {r : PV} (hf : T.tbl f = some pf) (hn : args.length ≤ pf.ntmps) (h : W T (Ends pf (· = r)) [.code pf.body] .normal (envFrom 0 args) emptySt) : T.R (.call f args r) := by
  obtain ⟨r', h1, rfl⟩ := call_of hf hn h
  exact h1
def EndsR (pf : PF) (r : PV) (st' : St) : Post := fun x ρ st => (x = .normal ∨ x = .ret) ∧ resOf ρ st.get pf.results = some r ∧ st = st'
theorem raw_is {T : Tb} {f : Nat} {pf : PF} {args : List PV} {r : PV} {st st' : St} (hf : T.tbl f = some pf) (hn : args.length ≤ pf.ntmps) (h : W T (EndsR pf r st') [.code pf.body] .normal (envFrom 0 args) st) : T.R (.raw f args st r st') := by
  obtain ⟨x, ρ, st1, h1, hx, h2, rfl⟩ := h
  exact .raw _ _ _ _ _ _ _ _ hf hn h1 hx h2
inductive Pl : PV → Prop
  | junk : Pl .junk
  | bool (b) : Pl (.bool b)
  | int (k n) : Pl (.int k n)
  | str (s) : Pl (.str s)
  | nilPtr : Pl .nilPtr
  | iptr (cs off) (h : ∀ c ∈ cs, Pl c) : Pl (.iptr cs off)
  | nilSl : Pl .nilSl
  | sl (xs full) (h : ∀ cs ∈ xs, ∀ c ∈ cs, Pl c) : Pl (.sl xs full)
  | func (f cs) (h : ∀ c ∈ cs, Pl c) : Pl (.func f cs)
  | nilFunc : Pl .nilFunc
  | iface (ty v) (h : Pl v) : Pl (.iface ty v)
  | nilIface : Pl .nilIface
  | agg (cs) (h : ∀ c ∈ cs, Pl c) : Pl (.agg cs)
  | tuple (cs) (h : ∀ c ∈ cs, Pl c) : Pl (.tuple cs)
theorem Pl.bel {m : Nat} {p : PV} (h : Pl p) : Bel m p := by
  induction h with
  | junk => exact .junk
  | bool b => exact .bool b
  | int k n => exact .int k n
  | str s => exact .str s
  | nilPtr => exact .nilPtr
  | iptr cs off _ ih => exact .iptr _ _ ih
  | nilSl => exact .nilSl
  | sl xs full _ ih => exact .sl _ _ ih
  | func f cs _ ih => exact .func _ _ ih
  | nilFunc => exact .nilFunc
  | iface ty v _ ih => exact .iface _ _ ih
  | nilIface => exact .nilIface
  | agg cs _ ih => exact .agg _ ih
  | tuple cs _ ih => exact .tuple _ ih
theorem Pl.view {live : Bool} {look : Nat → Option Tok} {p : PV} (h : Pl p) : View live look p p := by
  have key : ∀ {cs : List PV} {i : Nat} {c d : PV}, cs[i]? = some c → cs[i]? = some d → c = d := fun h1 h2 => by rw [h1] at h2; injection h2
  induction h with
  | junk => exact .junk _
  | bool b => exact .bool b
  | int k n => exact .int k n
  | str s => exact .str s
  | nilPtr => exact .nilPtr
  | iptr cs off _ ih => exact .iptr _ _ _ rfl fun i c d h1 h2 => by have := key h1 h2; subst this; exact ih c (List.mem_of_getElem? h1)
  | nilSl => exact .nilSl
  | sl xs full _ ih =>
    refine .sl _ _ _ rfl (fun j cs ds h1 h2 => ?_) (fun j cs ds i c d h1 h2 h3 h4 => ?_)
    · rw [h1] at h2; injection h2 with h2; rw [h2]
    · rw [h1] at h2; injection h2 with h2; subst h2
      have := key h3 h4; subst this
      exact ih cs (List.mem_of_getElem? h1) c (List.mem_of_getElem? h3)
  | func f cs _ ih => exact .func _ _ _ rfl fun i c d h1 h2 => by have := key h1 h2; subst this; exact ih c (List.mem_of_getElem? h1)
  | nilFunc => exact .nilFunc
  | iface ty v _ ih => exact .iface _ _ _ ih
  | nilIface => exact .nilIface
  | agg cs _ ih => exact .agg _ _ rfl fun i c d h1 h2 => by have := key h1 h2; subst this; exact ih c (List.mem_of_getElem? h1)
  | tuple cs _ ih => exact .tuple _ _ rfl fun i c d h1 h2 => by have := key h1 h2; subst this; exact ih c (List.mem_of_getElem? h1)
theorem viewL_nil {live : Bool} {look : Nat → Option Tok} : ViewL live look [] [] := ⟨rfl, fun i x y h => by simp at h⟩
theorem viewL_cons {live : Bool} {look : Nat → Option Tok} {x y : PV} {xs ys : List PV} (h : View live look x y) (k : ViewL live look xs ys) : ViewL live look (x :: xs) (y :: ys) :=
  ⟨by simp [k.1], fun i a b h1 h2 => by
    cases i with
    | zero => simp at h1 h2; subst h1 h2; exact h
    | succ i => exact k.2 i a b (by simpa using h1) (by simpa using h2)⟩
theorem viewL_pl {live : Bool} {look : Nat → Option Tok} {xs : List PV} (h : ∀ c ∈ xs, Pl c) : ViewL live look xs xs :=
  ⟨rfl, fun i a b h1 h2 => by
    rw [h1] at h2; injection h2 with h2; subst h2
    exact (h a (List.mem_of_getElem? h1)).view⟩
theorem view_osl {live : Bool} {look : Nat → Option Tok} {t g off len sz : Nat} {full lv : Bool} {es : List (List PV)} (hg : look t = some (.row g sz es lv)) (hlv : live = true ∨ lv = false) (hb : off + len ≤ es.length) (hp : ∀ cs ∈ (es.drop off).take len, ∀ c ∈ cs, Pl c) : View live look (.osl t g off len full) (.sl ((es.drop off).take len) full) := by
  refine .osl t g off len full sz es lv _ hg hlv hb rfl (fun j cs ds h1 h2 => ?_) (fun j cs ds i c d h1 h2 h3 h4 => ?_)
  · rw [h1] at h2; injection h2 with h2; rw [h2]
  · rw [h1] at h2; injection h2 with h2; subst h2
    rw [h3] at h4; injection h4 with h4; subst h4
    exact (hp cs (List.mem_of_getElem? h1) c (List.mem_of_getElem? h3)).view
theorem view_osl0 {live : Bool} {look : Nat → Option Tok} {t g len sz : Nat} {full lv : Bool} {es : List (List PV)} (hg : look t = some (.row g sz es lv)) (hlv : live = true ∨ lv = false) (hb : len = es.length) (hp : ∀ cs ∈ es, ∀ c ∈ cs, Pl c) : View live look (.osl t g 0 len full) (.sl es full) := by
  subst hb
  have := view_osl (live := live) (full := full) hg hlv (off := 0) (len := es.length) (by simp) (by simpa using hp)
  simpa using this
theorem pl_bytes (s : List UInt8) : ∀ cs ∈ byteCells s, ∀ c ∈ cs, Pl c := by
  intro cs h c hc
  obtain ⟨b, _, rfl⟩ := List.mem_map.1 h
  simp at hc
  subst hc
  exact .int _ _
end Go.AM
set_option linter.unusedVariables false
set_option linter.unusedSimpArgs false
namespace Go.AM
open Go.RowKit
inductive EC where
  | nil
  | put (t : Nat) (p : PV) (e : EC)
  | drop (ts : List Nat) (e : EC)
def has (t : Nat) : List Nat → Bool
  | [] => false
  | x :: r => match Nat.beq t x with
    | true => true
    | false => has t r
def EC.get (t : Nat) : EC → Option PV
  | .nil => none
  | .put u p e => match Nat.beq t u with
    | true => some p
    | false => EC.get t e
  | .drop ts e => match has t ts with
    | true => none
    | false => EC.get t e
def EC.sets (e : EC) (d : Option Nat) (p : PV) : EC :=
  match d with
  | some t => .put t p e
  | none => e
def Sub (e : EC) (ρ : Env) : Prop := ∀ t p, e.get t = some p → getA t ρ = some p
theorem has_contains (t : Nat) : ∀ ts : List Nat, ts.contains t = has t ts
  | [] => rfl
  | x :: r => by
    simp only [has, List.contains_cons, ← has_contains t r]
    cases h : Nat.beq t x with
    | true => simp [Nat.eq_of_beq_eq_true h]
    | false => simp [Nat.ne_of_beq_eq_false h]
theorem Sub.sets {e : EC} {ρ : Env} (h : Sub e ρ) (d : Option Nat) (p : PV) : Sub (e.sets d p) (Env.put ρ d p) := by
  intro t q hq
  cases d with
  | none => exact h t q hq
  | some d =>
    simp only [EC.sets, EC.get] at hq
    simp only [Env.put, getA_putA]
    cases hb : Nat.beq t d with
    | true =>
      rw [hb] at hq
      injection hq with hq
      rw [if_pos (Nat.eq_of_beq_eq_true hb).symm, hq]
    | false =>
      rw [hb] at hq
      rw [if_neg (fun e => Nat.ne_of_beq_eq_false hb e.symm)]
      exact h t q hq
theorem Sub.drop {e : EC} {ρ : Env} (h : Sub e ρ) (ts : List Nat) : Sub (.drop ts e) (dropA ts ρ) := by
  intro t q hq
  simp only [EC.get] at hq
  rw [getA_dropA, has_contains]
  cases hb : has t ts with
  | true => rw [hb] at hq; cases hq
  | false => rw [hb] at hq; simpa using h t q hq
def ecFrom (k : Nat) : List PV → EC
  | [] => .nil
  | p :: r => .put k p (ecFrom (k + 1) r)
theorem sub_from : ∀ (k : Nat) (args : List PV), Sub (ecFrom k args) (envFrom k args)
  | k, [], t, p, h => by cases h
  | k, a :: r, t, p, h => by
    simp only [ecFrom, EC.get] at h
    simp only [envFrom, getA]
    cases hb : Nat.beq t k with
    | true =>
      rw [hb] at h
      rw [if_pos (Nat.eq_of_beq_eq_true hb).symm]
      exact h
    | false =>
      rw [hb] at h
      rw [if_neg (fun e => Nat.ne_of_beq_eq_false hb e.symm)]
      exact sub_from (k + 1) r t p h
def Opd.get (ρ : EC) : Opd → Option PV
  | .t n => ρ.get n
  | .c p => some p
theorem Opd.ev_of {ρ : EC} {r0 : Env} (hs : Sub ρ r0) {x : Opd} {p : PV} (h : x.get ρ = some p) : x.ev r0 = p := by
  cases x with
  | t n => simp only [Opd.get] at h; simp [Opd.ev, Env.at, hs _ _ h]
  | c q => injection h
def gets (ρ : EC) : List Opd → Option (List PV)
  | [] => some []
  | x :: r => match x.get ρ with
    | some p => match gets ρ r with
      | some ps => some (p :: ps)
      | none => none
    | none => none
theorem gets_ev {ρ : EC} {r0 : Env} (hs : Sub ρ r0) : ∀ {xs : List Opd} {ps : List PV}, gets ρ xs = some ps → xs.map (Opd.ev r0) = ps
  | [], ps, h => by injection h
  | x :: r, ps, h => by
    simp only [gets] at h
    split at h
    · rename_i p hp
      split at h
      · rename_i qs hq
        injection h with h
        subst h
        simp [Opd.ev_of hs hp, gets_ev hs hq]
      · cases h
    · cases h
def getOpt (ρ : EC) : Option Opd → Option (Option PV)
  | none => some none
  | some x => match x.get ρ with
    | some p => some (some p)
    | none => none
theorem getOpt_ev {ρ : EC} {r0 : Env} (hs : Sub ρ r0) {x : Option Opd} {p : Option PV} (h : getOpt ρ x = some p) : x.map (Opd.ev r0) = p := by
  cases x with
  | none => injection h
  | some x =>
    simp only [getOpt] at h
    split at h
    · rename_i q hq
      injection h with h
      subst h
      simp [Opd.ev_of hs hq]
    · cases h
def get1 (ρ : EC) (x : Opd) (f : PV → Option PV) : Option PV :=
  match x.get ρ with
  | some p => f p
  | none => none
def get2 (ρ : EC) (x y : Opd) (f : PV → PV → Option PV) : Option PV :=
  match x.get ρ with
  | some p => match y.get ρ with
    | some q => f p q
    | none => none
  | none => none
theorem get1_ev {ρ : EC} {r0 : Env} (hs : Sub ρ r0) {x : Opd} {f : PV → Option PV} {r : PV} (h : get1 ρ x f = some r) : f (x.ev r0) = some r := by
  unfold get1 at h
  split at h
  · rename_i p hp; rw [Opd.ev_of hs hp]; exact h
  · cases h
theorem get2_ev {ρ : EC} {r0 : Env} (hs : Sub ρ r0) {x y : Opd} {f : PV → PV → Option PV} {r : PV} (h : get2 ρ x y f = some r) : f (x.ev r0) (y.ev r0) = some r := by
  unfold get2 at h
  split at h
  · rename_i p hp
    split at h
    · rename_i q hq; rw [Opd.ev_of hs hp, Opd.ev_of hs hq]; exact h
    · cases h
  · cases h
def intNe (neq : Bool) : Option Bool → Option PV
  | some b => some (.bool (match neq with | true => !b | false => b))
  | none => none
def natPV : Option Nat → Option PV
  | some n => some (.int .i64 n)
  | none => none
def partsOf (ρ : EC) : List (Nat × Nat × Opd) → Option (List (Nat × Nat × PV))
  | [] => some []
  | (a, b, x) :: r => match x.get ρ with
    | some p => match partsOf ρ r with
      | some ps => some ((a, b, p) :: ps)
      | none => none
    | none => none
theorem partsOf_ev {ρ : EC} {r0 : Env} (hs : Sub ρ r0) : ∀ {xs : List (Nat × Nat × Opd)} {ps : List (Nat × Nat × PV)}, partsOf ρ xs = some ps → xs.map (fun p => (p.1, p.2.1, Opd.ev r0 p.2.2)) = ps
  | [], ps, h => by injection h
  | (a, b, x) :: r, ps, h => by
    simp only [partsOf] at h
    split at h
    · rename_i p hp
      split at h
      · rename_i qs hq
        injection h with h
        subst h
        simp [Opd.ev_of hs hp, partsOf_ev hs hq]
      · cases h
    · cases h
def elsOf (ρ : EC) : List (Nat × Opd) → Option (List (Nat × PV))
  | [] => some []
  | (a, x) :: r => match x.get ρ with
    | some p => match elsOf ρ r with
      | some ps => some ((a, p) :: ps)
      | none => none
    | none => none
theorem elsOf_ev {ρ : EC} {r0 : Env} (hs : Sub ρ r0) : ∀ {xs : List (Nat × Opd)} {ps : List (Nat × PV)}, elsOf ρ xs = some ps → xs.map (fun p => (p.1, Opd.ev r0 p.2)) = ps
  | [], ps, h => by injection h
  | (a, x) :: r, ps, h => by
    simp only [elsOf] at h
    split at h
    · rename_i p hp
      split at h
      · rename_i qs hq
        injection h with h
        subst h
        simp [Opd.ev_of hs hp, elsOf_ev hs hq]
      · cases h
    · cases h
def indexed (f : Int → PV → Option PV) : PV → PV → Option PV
  | p, .int _ i => f i p
  | _, _ => none
def stepQ (look : Nat → Option Tok) (ρ : EC) : PI → Option PV
  | .move x => x.get ρ
  | .pick c a b => match c.get ρ with
    | some (.bool true) => a.get ρ
    | some (.bool false) => b.get ρ
    | _ => none
  | .load n agg a => get1 ρ a (loadAt look n agg)
  | .build zero ps => match partsOf ρ ps with
    | some qs => match fillParts zero qs with
      | some cs => some (.agg cs)
      | none => none
    | none => none
  | .buildSl sz zero ps => match allOf sz zero with
    | true => match elsOf ρ ps with
      | some qs => match fillElems sz zero qs with
        | some es => some (.sl es true)
        | none => none
      | none => none
    | false => none
  | .fieldAddr x d => get1 ρ x (fieldAddr? d)
  | .field x off n agg => get1 ρ x (field? off n agg)
  | .indexA x ix len sz => get2 ρ x ix (indexed (indexA? len sz))
  | .indexS x ix sz => get2 ρ x ix (indexed (indexS? look sz))
  | .indexStr x ix => get2 ρ x ix (indexed indexStr?)
  | .sliceStr x lo hi => match getOpt ρ lo with
    | some l => match getOpt ρ hi with
      | some h => get1 ρ x (sliceStr? l h)
      | none => none
    | none => none
  | .sliceSl x sz lo hi mx => match getOpt ρ lo with
    | some l => match getOpt ρ hi with
      | some h => match getOpt ρ mx with
        | some m => get1 ρ x (sliceSl? look sz l h m)
        | none => none
      | none => none
    | none => none
  | .sliceArr x len sz lo hi mx => match getOpt ρ lo with
    | some l => match getOpt ρ hi with
      | some h => match getOpt ρ mx with
        | some m => get1 ρ x (sliceArr? len sz l h m)
        | none => none
      | none => none
    | none => none
  | .conv k x => get1 ρ x (conv? k)
  | .toBytes x => get1 ρ x fun p => match p with
    | .str s => some (.sl (byteCells s) false)
    | _ => none
  | .textId x => get1 ρ x fun p => match p with
    | .str s => some (.str s)
    | _ => none
  | .toStr x => get1 ρ x fun p => (elemsOf look p).bind fun es => (bytesOf? es).map .str
  | .neg x => get1 ρ x neg?
  | .not x => get1 ρ x not?
  | .bin op x y => get2 ρ x y (binOp? op)
  | .eqNil neq kind x => get1 ρ x fun p => intNe neq (isNil kind p)
  | .eqBool neq x y => get2 ρ x y fun p q => intNe neq (eqBool? p q)
  | .eqAgg neq ks x y => get2 ρ x y fun p q => intNe neq (eqAgg? ks p q)
  | .extract x i => get1 ρ x (extract? i)
  | .mkIface ty x => get1 ρ x fun p => some (.iface ty p)
  | .mkFunc f caps => match gets ρ caps with
    | some cs => some (.func f cs)
    | none => none
  | .nilCheck x => get1 ρ x nilCheck?
  | .len txt x => get1 ρ x fun p => match isStr p == txt with
    | true => natPV (lenOf p)
    | false => none
  | .cap x => get1 ρ x fun p => natPV (cap? p)
  | .minmax mx xs => match gets ρ xs with
    | some ps => minmax? mx ps
    | none => none
  | _ => none
theorem indexed_ev {f : Int → PV → Option PV} {p q r : PV} (h : indexed f p q = some r) : (int? q).bind (fun i => f i p) = some r := by
  unfold indexed at h
  split at h
  · exact h
  · cases h
theorem intNe_ev {neq : Bool} {o : Option Bool} {r : PV} (h : intNe neq o = some r) : o.map (fun b => PV.bool (if neq then !b else b)) = some r := by
  cases o with
  | none => cases h
  | some b => cases neq <;> exact h
theorem natPV_ev {o : Option Nat} {r : PV} (h : natPV o = some r) : o.map (fun (n : Nat) => PV.int .i64 (n : Int)) = some r := by
  cases o with
  | none => cases h
  | some b => exact h
theorem stepQ_quiet {look : Nat → Option Tok} {ρ : EC} {r0 : Env} (hs : Sub ρ r0) {op : PI} {p : PV} (h : stepQ look ρ op = some p) : quiet look (Opd.ev r0) op = some p := by
  cases op with
  | move x => simp only [quiet]; rw [Opd.ev_of hs h]
  | pick c a b =>
    simp only [stepQ] at h
    split at h
    · rename_i hc; simp only [quiet, Opd.ev_of hs hc, pick?, Opd.ev_of hs h, if_true]
    · rename_i hc; simp only [quiet, Opd.ev_of hs hc, pick?, Opd.ev_of hs h]; rfl
    · cases h
  | build zero ps =>
    simp only [stepQ] at h
    split at h
    · rename_i qs hq
      split at h
      · rename_i cs hc
        simp only [quiet, partsOf_ev hs hq, hc, Option.map_some]
        exact h
      · cases h
    · cases h
  | buildSl sz zero ps =>
    simp only [stepQ] at h
    split at h
    · rename_i ha
      split at h
      · rename_i qs hq
        split at h
        · rename_i cs hc
          simp only [quiet, elsOf_ev hs hq, hc, ha, if_true, Option.map_some]
          exact h
        · cases h
      · cases h
    · cases h
  | indexA x ix len sz => exact indexed_ev (get2_ev hs h)
  | indexS x ix sz => exact indexed_ev (get2_ev hs h)
  | indexStr x ix => exact indexed_ev (get2_ev hs h)
  | sliceStr x lo hi =>
    simp only [stepQ] at h
    split at h
    · rename_i a ha
      split at h
      · rename_i b hb
        simp only [quiet, getOpt_ev hs ha, getOpt_ev hs hb]
        exact get1_ev hs h
      · cases h
    · cases h
  | sliceSl x sz lo hi mx =>
    simp only [stepQ] at h
    split at h
    · rename_i a ha
      split at h
      · rename_i b hb
        split at h
        · rename_i c hc
          simp only [quiet, getOpt_ev hs ha, getOpt_ev hs hb, getOpt_ev hs hc]
          exact get1_ev hs h
        · cases h
      · cases h
    · cases h
  | sliceArr x len sz lo hi mx =>
    simp only [stepQ] at h
    split at h
    · rename_i a ha
      split at h
      · rename_i b hb
        split at h
        · rename_i c hc
          simp only [quiet, getOpt_ev hs ha, getOpt_ev hs hb, getOpt_ev hs hc]
          exact get1_ev hs h
        · cases h
      · cases h
    · cases h
  | toBytes x =>
    have h := get1_ev hs h
    simp only [quiet]
    exact h
  | textId x =>
    have h := get1_ev hs h
    simp only [quiet]
    exact h
  | eqNil neq kind x => exact intNe_ev (get1_ev hs h)
  | eqBool neq x y => exact intNe_ev (get2_ev hs h)
  | eqAgg neq ks x y => exact intNe_ev (get2_ev hs h)
  | mkFunc f caps =>
    simp only [stepQ] at h
    split at h
    · rename_i cs hc
      simp only [quiet, gets_ev hs hc]
      exact h
    · cases h
  | len txt x =>
    have h := get1_ev hs h
    simp only [quiet]
    cases he : isStr (x.ev r0) == txt with
    | true =>
      simp only [he] at h
      rw [if_pos rfl]
      exact natPV_ev h
    | false =>
      simp only [he] at h
      cases h
  | cap x => exact natPV_ev (get1_ev hs h)
  | minmax mx xs =>
    simp only [stepQ] at h
    split at h
    · rename_i cs hc
      simp only [quiet, gets_ev hs hc]
      exact h
    · cases h
  | load n agg a => exact get1_ev hs h
  | fieldAddr x d => exact get1_ev hs h
  | field x off n agg => exact get1_ev hs h
  | conv k x => exact get1_ev hs h
  | toStr x => exact get1_ev hs h
  | neg x => exact get1_ev hs h
  | not x => exact get1_ev hs h
  | bin op x y => exact get2_ev hs h
  | extract x i => exact get1_ev hs h
  | mkIface ty x => exact get1_ev hs h
  | nilCheck x => exact get1_ev hs h
  | store n a x => cases h
  | alloc cells => cases h
  | box x => cases h
  | makeSl sz zero bytes len cap => cases h
  | append sz bytes zero s x => cases h
  | appendZ sz bytes zero s x => cases h
  | copy sz d s => cases h
  | call f args => cases h
section
variable {T : Tb} {Q : Post} {k : List Fr} {ρ : EC} {st : St} {l : List POp} {kill : List Nat}
def V (T : Tb) (Q : Post) (k : List Fr) (x : EX) (e : EC) (st : St) : Prop := ∀ ρ, Sub e ρ → W T Q k x ρ st
def VO (T : Tb) (Q : Post) (l : List POp) (kill : List Nat) (k : List Fr) (e : EC) (st : St) : Prop := ∀ ρ, Sub e ρ → O T Q l kill k ρ st
def VD (T : Tb) (Q : Post) (l : List POp) (kill : List Nat) (k : List Fr) (e : EC) (st : St) : Prop := ∀ ρ, Sub e ρ → D T Q l kill k ρ st
theorem V_less {x : EX} {e : EC} (e' : EC) (he : ∀ t p, e'.get t = some p → e.get t = some p) (h : V T Q k x e' st) : V T Q k x e st := fun r hr => h r fun t p hp => hr t p (he t p hp)
theorem less_nil {e : EC} : ∀ t p, EC.get t .nil = some p → e.get t = some p := fun t p h => by cases h
theorem less_put {e e' : EC} {u : Nat} {q : PV} (hu : e.get u = some q) (he : ∀ t p, e'.get t = some p → e.get t = some p) : ∀ t p, (EC.put u q e').get t = some p → e.get t = some p := by
  intro t p h
  simp only [EC.get] at h
  cases hb : Nat.beq t u with
  | true =>
    rw [hb] at h
    injection h with h
    subst h
    rw [Nat.eq_of_beq_eq_true hb]
    exact hu
  | false => rw [hb] at h; exact he t p h
theorem O_nil' (h : V T Q k .normal (.drop kill ρ) st) : VO T Q [] kill k ρ st := fun r hr => O_nil (h _ (hr.drop kill))
theorem D_nil' (h : V T Q k .normal (.drop kill ρ) st) : VD T Q [] kill k ρ st := fun r hr => D_nil (h _ (hr.drop kill))
theorem O_step {d : Option Nat} {op : PI} {p : PV} (hq : stepQ st.get ρ op = some p) (h : VO T Q l kill k (ρ.sets d p) st) : VO T Q (⟨d, none, op⟩ :: l) kill k ρ st := fun r hr => O_q (stepQ_quiet hr hq) (h _ (hr.sets d p))
theorem D_step {d : Option Nat} {op : PI} {p : PV} (hq : stepQ st.get ρ op = some p) (h : VD T Q l kill k (ρ.sets d p) st) : VD T Q (⟨d, none, op⟩ :: l) kill k ρ st := fun r hr => D_q (stepQ_quiet hr hq) (h _ (hr.sets d p))
theorem putA_same {α : Type} {t : Nat} {x : α} : ∀ {ρ : List (Nat × α)}, getA t ρ = some x → putA t x ρ = ρ
  | [], h => by cases h
  | (j, v) :: r, h => by
    simp only [getA] at h
    simp only [putA]
    split at h
    · rename_i e; injection h with h; subst h e; rw [if_pos rfl]
    · rename_i e; rw [if_neg e, putA_same h]
theorem sub_same {r : Env} (hr : Sub ρ r) {t : Nat} {p : PV} (h : getA t r = some p) : Sub (.put t p ρ) r := by
  have := hr.sets (some t) p
  rwa [show Env.put r (some t) p = r from putA_same h] at this
theorem O_gS {d : Option Nat} {op : PI} {t : Nat} {want b : Bool} (hg : ρ.get t = some (.bool b)) (h1 : b = want → VO T Q (⟨d, none, op⟩ :: l) kill k (.put t (.bool want) ρ) st) (h2 : b = !want → VO T Q l kill k (EC.sets (.put t (.bool (!want)) ρ) d (.tuple [])) st) : VO T Q (⟨d, some (t, want), op⟩ :: l) kill k ρ st := by
  intro r hr
  have hg' := hr _ _ hg
  refine O_g hg' (fun e => ?_) (fun e => ?_)
  · exact h1 e r (sub_same hr (by rw [hg', e]))
  · have e' : b = !want := by cases b <;> cases want <;> simp_all
    exact h2 e' _ ((sub_same hr (by rw [hg', e'])).sets d _)
theorem D_gS {d : Option Nat} {op : PI} {t : Nat} {want b : Bool} (hg : ρ.get t = some (.bool b)) (h1 : b = want → VD T Q (⟨d, none, op⟩ :: l) kill k (.put t (.bool want) ρ) st) (h2 : b = !want → VD T Q l kill k (EC.sets (.put t (.bool (!want)) ρ) d (.tuple [])) st) : VD T Q (⟨d, some (t, want), op⟩ :: l) kill k ρ st := by
  intro r hr
  have hg' := hr _ _ hg
  refine D_g hg' (fun e => ?_) (fun e => ?_)
  · exact h1 e r (sub_same hr (by rw [hg', e]))
  · have e' : b = !want := by cases b <;> cases want <;> simp_all
    exact h2 e' _ ((sub_same hr (by rw [hg', e'])).sets d _)
theorem O_gT' {d : Option Nat} {op : PI} {t : Nat} {want : Bool} (hg : ρ.get t = some (.bool want)) (h1 : VO T Q (⟨d, none, op⟩ :: l) kill k ρ st) : VO T Q (⟨d, some (t, want), op⟩ :: l) kill k ρ st := fun r hr => O_gT (hr _ _ hg) (h1 r hr)
theorem O_gF' {d : Option Nat} {op : PI} {t : Nat} {want b : Bool} (hg : ρ.get t = some (.bool b)) (hb : b = !want) (h2 : VO T Q l kill k (ρ.sets d (.tuple [])) st) : VO T Q (⟨d, some (t, want), op⟩ :: l) kill k ρ st := fun r hr => O_gF (hr _ _ hg) (by subst hb; cases want <;> simp) (h2 _ (hr.sets d _))
theorem O_gU' {d : Option Nat} {op : PI} {t : Nat} {want : Bool} (hg : ρ.get t = some (.tuple [])) (h2 : VO T Q l kill k (ρ.sets d (.tuple [])) st) : VO T Q (⟨d, some (t, want), op⟩ :: l) kill k ρ st := fun r hr => O_gU (hr _ _ hg) (h2 _ (hr.sets d _))
theorem D_gT' {d : Option Nat} {op : PI} {t : Nat} {want : Bool} (hg : ρ.get t = some (.bool want)) (h1 : VD T Q (⟨d, none, op⟩ :: l) kill k ρ st) : VD T Q (⟨d, some (t, want), op⟩ :: l) kill k ρ st := fun r hr => D_g (hr _ _ hg) (fun _ => h1 r hr) (fun h => (h rfl).elim)
theorem D_gF' {d : Option Nat} {op : PI} {t : Nat} {want b : Bool} (hg : ρ.get t = some (.bool b)) (hb : b = !want) (h2 : VD T Q l kill k (ρ.sets d (.tuple [])) st) : VD T Q (⟨d, some (t, want), op⟩ :: l) kill k ρ st := fun r hr => D_g (hr _ _ hg) (fun h => by subst hb; cases want <;> simp at h) (fun _ => h2 _ (hr.sets d _))
theorem D_gU' {d : Option Nat} {op : PI} {t : Nat} {want : Bool} (hg : ρ.get t = some (.tuple [])) (h2 : VD T Q l kill k (ρ.sets d (.tuple [])) st) : VD T Q (⟨d, some (t, want), op⟩ :: l) kill k ρ st := fun r hr => D_gU (hr _ _ hg) (h2 _ (hr.sets d _))
def stepL (st : St) (ρ : EC) : PI → Option (PV × St)
  | .store n a x => match a.get ρ with
    | some p => match x.get ρ with
      | some q => if q.cells.all PV.one = true ∧ q.cells.length = n ∧ 0 < n then (storeAt st p q).map fun st => (.tuple [], st) else none
      | none => none
    | none => none
  | .alloc cells => some (.ptr st.next 0, st.new (.var cells))
  | .box x => match x.get ρ with
    | some p => match p.isJunk with
      | false => some (.ptr st.next 0, st.new (.var p.cells))
      | true => none
    | none => none
  | .buildSl sz zero ps => match allOf sz zero with
    | true => match elsOf ρ ps with
      | some qs => match fillElems sz zero qs with
        | some es => some (.osl st.next 0 0 es.length false, st.new (.row 0 sz es true))
        | none => none
      | none => none
    | false => none
  | .makeSl sz zero bytes len cap => match len.get ρ with
    | some (.int _ l) => match cap.get ρ with
      | some (.int _ c) => if zero.length = sz ∧ 0 ≤ l ∧ l ≤ c ∧ c * bytes ≤ roomLen then
        some (.osl st.next 0 0 l.toNat false, st.new (.row 0 sz (List.replicate l.toNat zero) true)) else none
      | _ => none
    | _ => none
  | .append sz bytes _ s x => match s.get ρ with
    | some p => match x.get ρ with
      | some q => (srcOf st q).bind fun src => if okEls sz src = true ∧ 0 < sz ∧ 0 < bytes then appendTo st sz bytes p src else none
      | none => none
    | none => none
  | .appendZ sz bytes zero s x => match s.get ρ with
    | some .nilSl => match x.get ρ with
      | some (.int _ k) => if zero.length = sz ∧ 0 < k ∧ k * bytes ≤ roomLen then
        some (.osl st.next 0 0 k.toNat false, st.new (.row 0 sz (List.replicate k.toNat zero) true)) else none
      | _ => none
    | _ => none
  | .copy sz d x => match d.get ρ with
    | some p => match x.get ρ with
      | some q => (srcOf st q).bind fun src => if okEls sz src = true ∧ 0 < sz then copyTo st sz p src else none
      | none => none
    | none => none
  | .toBytes x => match x.get ρ with
    | some (.str s) => some (.osl st.next 0 0 s.length false, st.new (.row 0 1 (byteCells s) true))
    | _ => none
  | _ => none
theorem stepL_loud {r0 : Env} (hs : Sub ρ r0) {op : PI} {r : PV × St} (h : stepL st ρ op = some r) : loud st (Opd.ev r0) op = some r := by
  cases op with
  | store n a x =>
    simp only [stepL] at h
    split at h
    · rename_i p hp
      split at h
      · rename_i q hq
        simp only [loud, Opd.ev_of hs hp, Opd.ev_of hs hq]; exact h
      · cases h
    · cases h
  | alloc cells => exact h
  | box x =>
    simp only [stepL] at h
    split at h
    · rename_i p hp
      split at h
      · rename_i hj
        simp only [loud, Opd.ev_of hs hp, hj, if_true]; exact h
      · cases h
    · cases h
  | buildSl sz zero ps =>
    simp only [stepL] at h
    split at h
    · rename_i ha
      split at h
      · rename_i qs hq
        split at h
        · rename_i cs hc
          simp only [loud, elsOf_ev hs hq, hc, ha, if_true, Option.map_some]
          exact h
        · cases h
      · cases h
    · cases h
  | makeSl sz zero bytes len cap =>
    simp only [stepL] at h
    split at h
    · rename_i _ _ hp
      split at h
      · rename_i _ _ hq
        simp only [loud, Opd.ev_of hs hp, Opd.ev_of hs hq]; exact h
      · cases h
    · cases h
  | append sz bytes zero s x =>
    simp only [stepL] at h
    split at h
    · rename_i p hp
      split at h
      · rename_i q hq
        simp only [loud, Opd.ev_of hs hp, Opd.ev_of hs hq]; exact h
      · cases h
    · cases h
  | appendZ sz bytes zero s x =>
    simp only [stepL] at h
    split at h
    · rename_i hp
      split at h
      · rename_i _ _ hq
        simp only [loud, Opd.ev_of hs hp, Opd.ev_of hs hq]; exact h
      · cases h
    · cases h
  | copy sz d x =>
    simp only [stepL] at h
    split at h
    · rename_i p hp
      split at h
      · rename_i q hq
        simp only [loud, Opd.ev_of hs hp, Opd.ev_of hs hq]; exact h
      · cases h
    · cases h
  | toBytes x =>
    simp only [stepL] at h
    split at h
    · rename_i s hp
      simp only [loud, Opd.ev_of hs hp]; exact h
    · cases h
  | _ => cases h
theorem O_stepL {d : Option Nat} {op : PI} {p : PV} {st' : St} (hq : stepL st ρ op = some (p, st')) (h : VO T Q l kill k (ρ.sets d p) st') : VO T Q (⟨d, none, op⟩ :: l) kill k ρ st := fun r hr => O_l (stepL_loud hr hq) (h _ (hr.sets d p))
def adv : Nat → List Fr → EX → List Fr × EX
  | 0, k, x => (k, x)
  | n + 1, k, x => match k with
    | [] => ([], x)
    | .block id :: k => match x with
      | .normal => adv n k .normal
      | .ret => adv n k .ret
      | .exit i => match Nat.beq i id with
        | true => adv n k .normal
        | false => adv n k (.exit i)
    | .code c :: k => match x with
      | .ret => adv n k .ret
      | .exit i => adv n k (.exit i)
      | .normal => match c with
        | .skip => adv n k .normal
        | .seq a b => adv n (.code a :: .code b :: k) .normal
        | .block id c => adv n (.code c :: .block id :: k) .normal
        | .exit i => adv n k (.exit i)
        | .ret => adv n k .ret
        | .ops l kill => (.code (.ops l kill) :: k, .normal)
        | .drawn l kill => (.code (.drawn l kill) :: k, .normal)
        | .cond c a b => (.code (.cond c a b) :: k, .normal)
        | .loop c => (.code (.loop c) :: k, .normal)
theorem W_adv' : ∀ (n : Nat) (k : List Fr) (x : EX), ∀ {ρ : Env}, W T Q (adv n k x).1 (adv n k x).2 ρ st → W T Q k x ρ st
  | 0, k, x, _, h => h
  | n + 1, [], x, _, h => h
  | n + 1, .block id :: k, .normal, _, h => W_blockN (W_adv' n k .normal h)
  | n + 1, .block id :: k, .ret, _, h => W_blockR (W_adv' n k .ret h)
  | n + 1, .block id :: k, .exit i, _, h => by
    simp only [adv] at h
    cases hb : Nat.beq i id with
    | true =>
      rw [hb] at h
      have := Nat.eq_of_beq_eq_true hb
      subst this
      exact W_blockE (W_adv' n k _ h)
    | false =>
      rw [hb] at h
      exact W_blockO (Nat.ne_of_beq_eq_false hb) (W_adv' n k _ h)
  | n + 1, .code c :: k, .ret, _, h => W_adv' n k .ret h
  | n + 1, .code c :: k, .exit i, _, h => W_adv' n k (.exit i) h
  | n + 1, .code c :: k, .normal, _, h => by
    cases c with
    | skip => exact W_skip (W_adv' n k _ h)
    | seq a b => exact W_seq (W_adv' n _ _ h)
    | block id c => exact W_block (W_adv' n _ _ h)
    | exit i => exact W_exit (W_adv' n _ _ h)
    | ret => exact W_ret (W_adv' n _ _ h)
    | ops l kill => exact h
    | drawn l kill => exact h
    | cond c a b => exact h
    | loop c => exact h
theorem V_adv {x : EX} {k' : List Fr} {x' : EX} (ha : adv 200 k x = (k', x')) (h : V T Q k' x' ρ st) : V T Q k x ρ st := fun r hr => W_adv' 200 k x (by rw [ha]; exact h r hr)
theorem V_O {x : EX} {k' : List Fr} (ha : adv 200 k x = (.code (.ops l kill) :: k', .normal)) (h : VO T Q l kill k' ρ st) : V T Q k x ρ st := V_adv ha fun r hr => W_ops (h r hr)
theorem V_D {x : EX} {k' : List Fr} (ha : adv 200 k x = (.code (.drawn l kill) :: k', .normal)) (h : VD T Q l kill k' ρ st) : V T Q k x ρ st := V_adv ha fun r hr => W_drawn (h r hr)
theorem V_cT {x : EX} {k' : List Fr} {c : Opd} {a b : PC} (ha : adv 200 k x = (.code (.cond c a b) :: k', .normal)) (hc : c.get ρ = some (.bool true)) (h1 : V T Q (.code a :: k') .normal ρ st) : V T Q k x ρ st := V_adv ha fun r hr => W_cond (t := true) (Opd.ev_of hr hc) (h1 r hr)
theorem V_cF {x : EX} {k' : List Fr} {c : Opd} {a b : PC} (ha : adv 200 k x = (.code (.cond c a b) :: k', .normal)) (hc : c.get ρ = some (.bool false)) (h1 : V T Q (.code b :: k') .normal ρ st) : V T Q k x ρ st := V_adv ha fun r hr => W_cond (t := false) (Opd.ev_of hr hc) (h1 r hr)
theorem V_cB {x : EX} {k' : List Fr} {c : Opd} {a b : PC} {t : Bool} (ha : adv 200 k x = (.code (.cond c a b) :: k', .normal)) (hc : c.get ρ = some (.bool t)) (h1 : t = true → V T Q (.code a :: k') .normal ρ st) (h2 : t = false → V T Q (.code b :: k') .normal ρ st) : V T Q k x ρ st := by
  cases t with
  | true => exact V_cT ha hc (h1 rfl)
  | false => exact V_cF ha hc (h2 rfl)
theorem V_end {x x' : EX} (ha : adv 200 k x = ([], x')) (h : V T Q [] x' ρ st) : V T Q k x ρ st := V_adv ha h
theorem V_loop {c : PC} {k' : List Fr} {x : EX} (ha : adv 200 k x = (.code (.loop c) :: k', .normal)) (h : V T Q (.code (.loop c) :: k') .normal ρ st) : V T Q k x ρ st := V_adv ha h
theorem V_unroll {c : PC} (h : V T Q (.code c :: .code (.loop c) :: k) .normal ρ st) : V T Q (.code (.loop c) :: k) .normal ρ st := fun r hr => W_loop (h r hr)
theorem V_weak {c : PC} {st' : St} {e' : EC} (hw : ∀ r, Sub ρ r → ∃ r', Weak r st r' st' ∧ Sub e' r') (h : V T Q (.code c :: k) .normal e' st') : V T Q (.code c :: k) .normal ρ st := fun r hr => by
  obtain ⟨r', h1, h2⟩ := hw r hr
  exact W_weak h1 (h r' h2)
theorem O_callP {d : Option Nat} {f : Opd} {xs : List Opd} {g : Nat} {caps vals args : List PV} {r : PV} (hf : f.get ρ = some (.func g caps)) (hx : gets ρ xs = some vals) (hv : ViewL false st.get (vals ++ caps) args) (hc : T.R (.call g args r)) (h : VO T Q l kill k (ρ.sets d r) st) : VO T Q (⟨d, none, .call f xs⟩ :: l) kill k ρ st :=
  fun e he => O_call (Opd.ev_of he hf) (by rw [gets_ev he hx]; exact hv) hc (h _ (he.sets d r))
theorem O_callSP {d : Option Nat} {f : Opd} {xs : List Opd} {g : Nat} {caps vals args : List PV} {r : PV} (hf : f.get ρ = some (.func g caps)) (hx : gets ρ xs = some vals) (hv : ViewL true st.get (vals ++ caps) args) (hr : scalarR r = true) (hc : T.R (.call g args r)) (h : VO T Q l kill k (ρ.sets d r) st) : VO T Q (⟨d, none, .call f xs⟩ :: l) kill k ρ st :=
  fun e he => O_callS (Opd.ev_of he hf) (by rw [gets_ev he hx]; exact hv) hr hc (h _ (he.sets d r))
theorem O_extP {d : Option Nat} {f : Opd} {xs : List Opd} {g : Nat} {caps vals args : List PV} {r : PV} (hf : f.get ρ = some (.func g caps)) (hx : gets ρ xs = some vals) (hv : ViewL true st.get (vals ++ caps) args) (hr : scalarR r = true) (hc : T.ext g args r) (h : VO T Q l kill k (ρ.sets d r) st) : VO T Q (⟨d, none, .call f xs⟩ :: l) kill k ρ st :=
  fun e he => O_ext (Opd.ev_of he hf) (by rw [gets_ev he hx]; exact hv) hr hc (h _ (he.sets d r))
theorem O_rawP {d : Option Nat} {f : Opd} {xs : List Opd} {g : Nat} {caps vals : List PV} (q τ : List (Nat × Tok)) {r : PV} {st1 : St} (hf : f.get ρ = some (.func g caps)) (hx : gets ρ xs = some vals) (hp : Parts st q τ) (hb : st1.base = st.next) (hc : T.R (.raw g (vals ++ caps) (partSt st τ) r st1)) (h : VO T Q l kill k (ρ.sets d r) (joinSt st q st1)) : VO T Q (⟨d, none, .call f xs⟩ :: l) kill k ρ st :=
  fun e he => O_raw (Opd.ev_of he hf) hp hb (by rw [gets_ev he hx]; exact hc) (h _ (he.sets d r))
theorem D_callP {d : Option Nat} {f : Opd} {xs : List Opd} {g : Nat} {caps vals args : List PV} {r : PV} (hf : f.get ρ = some (.func g caps)) (hx : gets ρ xs = some vals) (hv : ViewL false st.get (vals ++ caps) args) (hc : T.R (.call g args r)) (h : VD T Q l kill k (ρ.sets d r) st) : VD T Q (⟨d, none, .call f xs⟩ :: l) kill k ρ st :=
  fun e he => D_call (Opd.ev_of he hf) (by rw [gets_ev he hx]; exact hv) hc (h _ (he.sets d r))
def resG1 (ρ : EC) (look : Nat → Option Tok) : PRes → Option PV
  | .tmp t => ρ.get t
  | .cell a n agg => match ρ.get a with
    | some p => loadAt look n agg p
    | none => none
def resGs (ρ : EC) (look : Nat → Option Tok) : List PRes → Option (List PV)
  | [] => some []
  | r :: rs => match resG1 ρ look r with
    | some v => match resGs ρ look rs with
      | some vs => some (v :: vs)
      | none => none
    | none => none
def resG (ρ : EC) (look : Nat → Option Tok) (rs : List PRes) : Option PV :=
  match resGs ρ look rs with
  | some [v] => some v
  | some vs => some (.tuple vs)
  | none => none
theorem resG1_eq {r0 : Env} (hs : Sub ρ r0) {look : Nat → Option Tok} {r : PRes} {v : PV} (h : resG1 ρ look r = some v) : res1 r0 look r = some v := by
  cases r with
  | tmp t => simp only [resG1] at h; simp [res1, Env.at, hs _ _ h]
  | cell a n agg =>
    simp only [resG1] at h
    split at h
    · rename_i p hp
      simpa [res1, Env.at, hs _ _ hp] using h
    · cases h
theorem resGs_eq {r0 : Env} (hs : Sub ρ r0) {look : Nat → Option Tok} : ∀ {rs : List PRes} {vs : List PV}, resGs ρ look rs = some vs → mapO (res1 r0 look) rs = some vs
  | [], vs, h => h
  | r :: rs, vs, h => by
    simp only [resGs] at h
    split at h
    · rename_i v hv
      split at h
      · rename_i ws hw
        simp only [mapO, resG1_eq hs hv, resGs_eq hs hw]
        exact h
      · cases h
    · cases h
theorem resG_eq {r0 : Env} (hs : Sub ρ r0) {look : Nat → Option Tok} {rs : List PRes} {v : PV} (h : resG ρ look rs = some v) : resOf r0 look rs = some v := by
  unfold resG at h
  unfold resOf
  split at h
  · rename_i w hw; rw [resGs_eq hs hw]; exact h
  · rename_i vs hne hw
    rw [resGs_eq hs hw]
    match vs, hne with
    | [], _ => exact h
    | [v], hne => exact (hne v rfl).elim
    | _ :: _ :: _, _ => exact h
  · cases h
theorem V_fin {pf : PF} {Q : PV → Prop} {x : EX} {r0 r : PV} (ha : adv 200 k x = ([], .ret)) (hr : resG ρ st.get pf.results = some r0) (hv : View true st.get r0 r) (hq : Q r) : V T (Ends pf Q) k x ρ st := V_end ha fun e he => ⟨.inr rfl, r0, r, resG_eq he hr, hv, hq⟩
theorem V_finN {pf : PF} {Q : PV → Prop} {x : EX} {r0 r : PV} (ha : adv 200 k x = ([], .normal)) (hr : resG ρ st.get pf.results = some r0) (hv : View true st.get r0 r) (hq : Q r) : V T (Ends pf Q) k x ρ st := V_end ha fun e he => ⟨.inl rfl, r0, r, resG_eq he hr, hv, hq⟩
theorem V_finR {pf : PF} {r : PV} {x : EX} {st' : St} (ha : adv 200 k x = ([], .ret)) (hr : resG ρ st.get pf.results = some r) (hq : st = st') : V T (EndsR pf r st') k x ρ st := V_end ha fun e he => ⟨.inr rfl, resG_eq he hr, hq⟩
theorem call_V {f : Nat} {pf : PF} {args : List PV} {r : PV} (hf : T.tbl f = some pf) (hn : Nat.ble args.length pf.ntmps = true) (h : V T (Ends pf (· = r)) [.code pf.body] .normal (ecFrom 0 args) emptySt) : T.R (.call f args r) := call_is hf (Nat.le_of_ble_eq_true hn) (h _ (sub_from 0 args))
theorem call_VQ {f : Nat} {pf : PF} {args : List PV} {Q : PV → Prop} (hf : T.tbl f = some pf) (hn : Nat.ble args.length pf.ntmps = true) (h : V T (Ends pf Q) [.code pf.body] .normal (ecFrom 0 args) emptySt) : ∃ r, T.R (.call f args r) ∧ Q r := call_of hf (Nat.le_of_ble_eq_true hn) (h _ (sub_from 0 args))
theorem raw_V {f : Nat} {pf : PF} {args : List PV} {r : PV} {st' : St} (hf : T.tbl f = some pf) (hn : Nat.ble args.length pf.ntmps = true) (h : V T (EndsR pf r st') [.code pf.body] .normal (ecFrom 0 args) st) : T.R (.raw f args st r st') := raw_is hf (Nat.le_of_ble_eq_true hn) (h _ (sub_from 0 args))
end
theorem pl_nil : ∀ c ∈ ([] : List PV), Pl c := fun c h => by cases h
theorem pl_cons {a : PV} {l : List PV} (ha : Pl a) (hl : ∀ c ∈ l, Pl c) : ∀ c ∈ a :: l, Pl c := fun c h => by
  rcases List.mem_cons.1 h with rfl | h
  · exact ha
  · exact hl c h
end Go.AM
set_option linter.unusedVariables false
set_option linter.unusedSimpArgs false
namespace Go.AM
open Go.RowKit Go.ChangeShapes Go.WideShapes Go.ChangeAt
inductive TV {H : Type} (P : Program) : TypeId → DataW H → List PV → Prop
  | bool {t b} (ht : P.underlying t = some .bool) : TV P t (.lit (.bool b)) [.bool b]
  | int {t k n} (ht : P.underlying t = some (.int k)) (hw : (Lit.int k n).wf = true) : TV P t (.lit (.int k n)) [.int k n]
  | str {t} {s : List UInt8} (ht : P.underlying t = some .string) (hs : s.length ≤ maxLen) : TV P t (.lit (.string s)) [.str s]
  | nilPtr {t e} (ht : P.underlying t = some (.pointer e)) : TV P t .nil [.nilPtr]
  | ptr {t e d cs} (ht : P.underlying t = some (.pointer e)) (hp : 0 < P.cellsOf e) (h : TV P e d cs) : TV P t (.ptr d) [.iptr cs 0]
  | nilSl {t e} (ht : P.underlying t = some (.slice e)) : TV P t .nil [.nilSl]
  | sl {t e} {ds rest : List (DataW H)} {xs : List (List PV)} {full : Bool} (ht : P.underlying t = some (.slice e)) (hp : 0 < P.cellsOf e) (hl : xs.length = ds.length) (hm : xs.length ≤ maxLen) (hc : ∀ (j : Nat) (cs : List PV), xs[j]? = some cs → cs.length = P.cellsOf e)
      (h : ∀ (j : Nat) (d : DataW H) (cs : List PV), ds[j]? = some d → xs[j]? = some cs → TV P e d cs) : TV P t (.slice ds rest) [.sl xs full]
  | struct {t fs} {ds : List (DataW H)} {qss : List (List PV)} (ht : P.underlying t = some (.struct fs)) (hd : ds.length = fs.size) (hq : qss.length = fs.size)
      (h : ∀ (j : Nat) (f : Field) (d : DataW H) (q : List PV), fs[j]? = some f → ds[j]? = some d → qss[j]? = some q → TV P f.type d q) : TV P t (.agg ds) qss.flatten
  | array {t n e} {ds : List (DataW H)} {qss : List (List PV)} (ht : P.underlying t = some (.array n e)) (hd : ds.length = n) (hq : qss.length = n)
      (h : ∀ (j : Nat) (d : DataW H) (q : List PV), ds[j]? = some d → qss[j]? = some q → TV P e d q) : TV P t (.agg ds) qss.flatten
  | other {t d} {qs : List PV} (h1 : P.underlying t ≠ some .bool) (h2 : ∀ k, P.underlying t ≠ some (.int k)) (h3 : P.underlying t ≠ some .string) (h4 : ∀ e, 0 < P.cellsOf e → P.underlying t ≠ some (.pointer e)) (h5 : ∀ e, 0 < P.cellsOf e → P.underlying t ≠ some (.slice e))
      (h6 : ∀ fs, P.underlying t ≠ some (.struct fs)) (h7 : ∀ n e, P.underlying t ≠ some (.array n e)) (hq : ∀ q ∈ qs, q = .junk) : TV P t d qs
def RepL (w : World) (cs : List Value) (qs : List PV) : Prop := qs.length = cs.length ∧ ∀ (i : Nat) (v : Value) (q : PV), cs[i]? = some v → qs[i]? = some q → Rep noG (fun _ => False) w v q
theorem RepL.one {w : World} {v : Value} {q : PV} (h : Rep noG (fun _ => False) w v q) : RepL w [v] [q] := ⟨rfl, fun i a b h1 h2 => by
  cases i with
  | zero => simp at h1 h2; subst h1 h2; exact h
  | succ i => simp at h1⟩
theorem RepL.append {w : World} {a b : List Value} {q r : List PV} (h : RepL w a q) (k : RepL w b r) : RepL w (a ++ b) (q ++ r) := by
  refine ⟨by simp [h.1, k.1], fun i v p h1 h2 => ?_⟩
  by_cases hi : i < a.length
  · rw [List.getElem?_append_left hi] at h1
    rw [List.getElem?_append_left (by rw [h.1]; exact hi)] at h2
    exact h.2 i v p h1 h2
  · rw [List.getElem?_append_right (by omega)] at h1
    rw [List.getElem?_append_right (by rw [h.1]; omega), h.1] at h2
    exact k.2 _ v p h1 h2
theorem repL_flatten {w : World} : ∀ (ns : List Nat) (qss : List (List PV)) (cs : List Value), qss.length = ns.length → (∀ (j n : Nat) (q : List PV), ns[j]? = some n → qss[j]? = some q → RepL w ((cs.drop (ns.take j).sum).take n) q) → cs.length = ns.sum → RepL w cs qss.flatten
  | [], [], cs, _, _, hl => by
    have : cs = [] := List.length_eq_zero_iff.1 (by simpa using hl)
    subst this
    exact ⟨rfl, fun i v q h => by simp at h⟩
  | n :: ns, q :: qss, cs, hl, h, hs => by
    have h0 := h 0 n q rfl rfl
    simp only [List.take_zero, List.sum_nil, List.drop_zero] at h0
    simp only [List.sum_cons] at hs
    have ih := repL_flatten ns qss (cs.drop n) (by simpa using hl) (fun j m r hj hr => by
      have := h (j + 1) m r (by simpa using hj) (by simpa using hr)
      rw [List.take_succ_cons, List.sum_cons] at this
      rwa [List.drop_drop]) (by simp; omega)
    have := h0.append ih
    rwa [List.take_append_drop] at this
  | [], _ :: _, _, hl, _, _ => by simp at hl
  | _ :: _, [], _, hl, _, _ => by simp at hl
theorem cells?_at {w : World} {base : Nat} {a : Addr} {n : Nat} {cs : List Value} (h : w.cells? base a n = some cs) : cs.length = n ∧ (∀ (i : Nat) (v : Value), cs[i]? = some v → cellAt w a.block (a.off + i) = some v) ∧ (0 < n → a.spot = none) := by
  obtain ⟨h1, h2, h3⟩ := World.cells?_some h
  have hs : 0 < n → a.spot = none := by
    intro hn
    have h0 := h3 0 hn
    have hx : w.cell? a = cs[0]? := by simpa [Addr.add] using h0
    unfold World.cell? at hx
    rw [List.getElem?_eq_getElem (show 0 < cs.length by omega)] at hx
    split at hx
    · split at hx
      · cases hx
      · rename_i hsp; cases hh : a.spot with
        | none => rfl
        | some s => rw [hh] at hsp; simp at hsp
    · cases hx
  refine ⟨h2, fun i v hv => ?_, hs⟩
  have hi : i < n := by rw [← h2]; exact (List.getElem?_eq_some_iff.1 hv).1
  have := h3 i hi
  rw [hv] at this
  have hsp := hs (by omega)
  unfold cellAt
  rw [← this]
  unfold Addr.add
  split
  · rename_i h0; subst h0; cases a; simp at hsp; subst hsp; rfl
  · cases a; simp at hsp; subst hsp; rfl
section
variable {H : Type} {enc : TypeId × Value → H} {P : Program} {W : World}
theorem trod_tv (hl : laidOutB P = true) : ∀ (fuel : Nat) (t : TypeId) (cs : List Value) (d : DataW H) (ps : List MemPlace), t < P.types.size → DataW.trod enc P W 0 (fun _ => true) true fuel t cs = some (d, ps) → ∃ qs, RepL W cs qs ∧ TV P t d qs
  | 0, t, cs, d, ps, ht, h => by simp [DataW.trod] at h
  | fuel + 1, t, cs, d, ps, ht, h => by
    have key : ∀ u, P.underlying t = u → ∃ qs, RepL W cs qs ∧ TV P t d qs := by
      intro u hu
      have junk : (∀ k, u ≠ some (.int k)) → u ≠ some .bool → u ≠ some .string → (∀ e, 0 < P.cellsOf e → u ≠ some (.pointer e)) → (∀ e, 0 < P.cellsOf e → u ≠ some (.slice e)) → (∀ fs, u ≠ some (.struct fs)) → (∀ n e, u ≠ some (.array n e)) → ∃ qs, RepL W cs qs ∧ TV P t d qs := by
        intro k1 k2 k3 k4 k5 k6 k7
        subst hu
        exact ⟨cs.map fun _ => .junk, ⟨by simp, fun i v q h1 h2 => by
          rw [List.getElem?_map, h1] at h2
          injection h2 with h2; subst h2; exact .junk v⟩, .other k2 k1 k3 k4 k5 k6 k7 (fun q hq => by simp at hq; exact hq.2.symm)⟩
      match u, hu with
      | some .bool, hu =>
        obtain ⟨b, rfl, hx⟩ := DataW.trod_bool hu h
        injection hx with h1 h2
        subst h1
        exact ⟨_, .one (.bool b), .bool hu⟩
      | some (.int k), hu =>
        obtain ⟨n, rfl, hx, hw⟩ := DataW.trod_int hu h
        injection hx with h1 h2
        subst h1
        exact ⟨_, .one (.int k n), .int hu hw⟩
      | some .string, hu =>
        obtain ⟨s, rfl, hx, hw⟩ := DataW.trod_string hu h
        injection hx with h1 h2
        subst h1
        have : s = ⟨s.data.toList.toArray⟩ := by
          cases s with
          | mk data => exact congrArg ByteArray.mk data.toArray_toList.symm
        refine ⟨[.str s.data.toList], .one ?_, .str hu (by rw [Array.length_toList]; exact hw)⟩
        have h3 := Rep.str (G := noG) (own := fun _ => False) (w := W) s.data.toList
        rwa [← this] at h3
      | some (.pointer e), hu =>
        by_cases hp : 0 < P.cellsOf e
        · rcases DataW.trod_pointer hu h with ⟨rfl, hx⟩ | ⟨a, cs', y, n, hf, rfl, hx, hc, hy⟩
          · injection hx with h1 h2
            subst h1
            exact ⟨_, .one .nilPtr, .nilPtr hu⟩
          · injection hx with h1 h2
            subst h1
            have hf' : n = fuel := by omega
            subst hf'
            obtain ⟨qs, hq1, hq2⟩ := trod_tv hl n e cs' y.1 y.2 (kid_pointer hl ht hu) hy
            obtain ⟨k1, k2, k3⟩ := cells?_at hc
            have hsp := k3 hp
            refine ⟨[.iptr qs 0], .one ?_, .ptr hu hp hq2⟩
            have ha : a = ⟨a.block, a.off + 0, none⟩ := by cases a; simp at hsp; subst hsp; rfl
            rw [ha]
            have hv : ∀ {i : Nat} {c : PV}, qs[i]? = some c → cs'[i]? = some (cs'.getD i undef) := fun {i c} hc => by
              have : i < cs'.length := by rw [← hq1.1]; exact (List.getElem?_eq_some_iff.1 hc).1
              simp [List.getD_eq_getElem?_getD, List.getElem?_eq_getElem this]
            exact .iptr qs 0 a.block a.off (fun i => cs'.getD i undef) (fun i c hc => ⟨k2 i _ (hv hc), fun h => h⟩) (fun i c hc => hq1.2 i _ c (hv hc) hc)
        · exact junk (by simp) (by simp) (by simp) (fun e' he' hh => by injection hh with hh; injection hh with hh; subst hh; exact hp he') (by simp) (by simp) (by simp)
      | some (.slice e), hu =>
        by_cases hp : 0 < P.cellsOf e
        · rcases DataW.trod_slice hu h with ⟨rfl, hx⟩ | ⟨a, len, cap, elems, rest, n, hf, rfl, hx, _, hlc, hcm, hel, helems, hrest, _⟩
          · injection hx with h1 h2
            subst h1
            exact ⟨_, .one .nilSl, .nilSl hu⟩
          · injection hx with h1 h2
            subst h1
            have hf' : n = fuel := by omega
            subst hf'
            have hke := kid_slice hl ht hu
            have each : ∀ i, i < len → ∃ vs q y, elems[i]? = some y ∧ W.cells? 0 (a.add (i * P.cellsOf e)) (P.cellsOf e) = some vs ∧ RepL W vs q ∧ TV P e y.1 q := by
              intro i hi
              have := helems i hi
              rw [List.getElem?_eq_getElem (by omega : i < elems.length)] at this
              obtain ⟨vs, e1, e2⟩ := Option.bind_eq_some_iff.1 this
              obtain ⟨q, e3, e4⟩ := trod_tv hl n e vs _ _ hke e2
              exact ⟨vs, q, _, List.getElem?_eq_getElem (by omega), e1, e3, e4⟩
            have hch : ∃ (V : Nat → List Value) (X : Nat → List PV), ∀ i, i < len → ∃ y : DataW H × List MemPlace, elems[i]? = some y ∧ W.cells? 0 (a.add (i * P.cellsOf e)) (P.cellsOf e) = some (V i) ∧ RepL W (V i) (X i) ∧ TV P e y.1 (X i) := by
              have : ∀ i : Nat, ∃ z : List Value × List PV, i < len → ∃ y : DataW H × List MemPlace, elems[i]? = some y ∧ W.cells? 0 (a.add (i * P.cellsOf e)) (P.cellsOf e) = some z.1 ∧ RepL W z.1 z.2 ∧ TV P e y.1 z.2 := by
                intro i
                by_cases hi : i < len
                · obtain ⟨vs, q, y, e1, e2, e3, e4⟩ := each i hi
                  exact ⟨(vs, q), fun _ => ⟨y, e1, e2, e3, e4⟩⟩
                · exact ⟨([], []), fun h => (hi h).elim⟩
              obtain ⟨f, hf⟩ := Classical.axiomOfChoice this
              exact ⟨fun i => (f i).1, fun i => (f i).2, hf⟩
            obtain ⟨V, X, hVX⟩ := hch
            have hsp : 0 < cap → a.spot = none := by
              intro hc
              by_cases h0 : 0 < len
              · obtain ⟨y, _, e2, _⟩ := hVX 0 h0
                have := (cells?_at e2).2.2 hp
                simpa [Addr.add] using this
              · obtain ⟨r1, r2⟩ := hrest rfl
                have := r2 0 (by omega)
                rw [List.getElem?_eq_getElem (by omega : 0 < rest.length)] at this
                obtain ⟨vs, e1, e2⟩ := Option.bind_eq_some_iff.1 this
                have h00 : (len + 0) * P.cellsOf e = 0 := by rw [show len + 0 = 0 by omega, Nat.zero_mul]
                rw [h00] at e1
                have := (cells?_at e1).2.2 hp
                simpa [Addr.add] using this
            have hxl : ((List.range len).map X).length = len := by simp
            have hxg : ∀ {j : Nat} {q : List PV}, ((List.range len).map X)[j]? = some q → j < len ∧ q = X j := by
              intro j q hj
              have hjl : j < len := by have := (List.getElem?_eq_some_iff.1 hj).1; simpa using this
              rw [List.getElem?_map, List.getElem?_range hjl] at hj
              injection hj with hj
              exact ⟨hjl, hj.symm⟩
            refine ⟨[.sl ((List.range len).map X) (decide (cap = len))], .one ?_, .sl hu hp (by simp [hel]) (by rw [hxl]; omega) (fun j q hj => ?_) (fun j d q hd hq => ?_)⟩
            · have h3 := Rep.sl (G := noG) (own := fun _ => False) (w := W) ((List.range len).map X) (decide (cap = len)) a.block a.off cap (P.cellsOf e) a (fun j i => (V j).getD i undef) (by rw [hxl]; exact hlc) (fun h => by rw [hxl]; simpa using h)
                (fun hc => by have := hsp hc; cases a; simp at this; subst this; rfl)
                (fun j q hj => by
                  obtain ⟨hjl, rfl⟩ := hxg hj
                  obtain ⟨y, _, e2, e3, _⟩ := hVX j hjl
                  rw [e3.1]; exact (cells?_at e2).1)
                (fun j q i c hj hi => by
                  obtain ⟨hjl, rfl⟩ := hxg hj
                  obtain ⟨y, _, e2, e3, _⟩ := hVX j hjl
                  have hil : i < (V j).length := by rw [← e3.1]; exact (List.getElem?_eq_some_iff.1 hi).1
                  have hv : (V j)[i]? = some ((V j).getD i undef) := by simp [List.getD_eq_getElem?_getD, List.getElem?_eq_getElem hil]
                  have := (cells?_at e2).2.1 i _ hv
                  refine ⟨?_, fun h => h⟩
                  have hadd : (a.add (j * P.cellsOf e)).block = a.block ∧ (a.add (j * P.cellsOf e)).off = a.off + j * P.cellsOf e := by
                    unfold Addr.add
                    split
                    · rename_i h0; rw [h0]; exact ⟨rfl, rfl⟩
                    · exact ⟨rfl, rfl⟩
                  rwa [hadd.1, hadd.2] at this)
                (fun j q i c hj hi => by
                  obtain ⟨hjl, rfl⟩ := hxg hj
                  obtain ⟨y, _, e2, e3, _⟩ := hVX j hjl
                  have hil : i < (V j).length := by rw [← e3.1]; exact (List.getElem?_eq_some_iff.1 hi).1
                  have hv : (V j)[i]? = some ((V j).getD i undef) := by simp [List.getD_eq_getElem?_getD, List.getElem?_eq_getElem hil]
                  exact e3.2 i _ c hv hi)
              rwa [hxl] at h3
            · obtain ⟨hjl, rfl⟩ := hxg hj
              obtain ⟨y, _, e2, e3, _⟩ := hVX j hjl
              rw [e3.1]; exact (cells?_at e2).1
            · obtain ⟨hjl, rfl⟩ := hxg hq
              obtain ⟨y, e1, e2, e3, e4⟩ := hVX j hjl
              rw [List.getElem?_map, e1] at hd
              injection hd with hd
              subst hd
              exact e4
        · exact junk (by simp) (by simp) (by simp) (by simp) (fun e' he' hh => by injection hh with hh; injection hh with hh; subst hh; exact hp he') (by simp) (by simp)
      | some (.struct fs), hu =>
        obtain ⟨xs, n, hf, hx, hcl, hxl, hfs⟩ := DataW.trod_struct hu h
        injection hx with h1 h2
        subst h1
        have hf' : n = fuel := by omega
        subst hf'
        obtain ⟨kf, kc, ko⟩ := kid_struct hl ht hu
        have hch : ∃ X : Nat → List PV, ∀ (i : Nat) (f : Field), fs[i]? = some f → ∃ y : DataW H × List MemPlace, xs[i]? = some y ∧ RepL W ((cs.drop f.offset).take (P.cellsOf f.type)) (X i) ∧ TV P f.type y.1 (X i) := by
          have : ∀ i : Nat, ∃ z : List PV, ∀ (f : Field), fs[i]? = some f → ∃ y : DataW H × List MemPlace, xs[i]? = some y ∧ RepL W ((cs.drop f.offset).take (P.cellsOf f.type)) z ∧ TV P f.type y.1 z := by
            intro i
            cases hfi : fs[i]? with
            | none => exact ⟨[], fun f h => by cases h⟩
            | some f =>
              have hi : i < fs.size := (Array.getElem?_eq_some_iff.1 hfi).1
              have := hfs i f hfi
              rw [List.getElem?_eq_getElem (by omega : i < xs.length)] at this
              obtain ⟨q, e3, e4⟩ := trod_tv hl n f.type _ _ _ (kf f (by
                rw [← Array.getElem?_toList] at hfi
                exact List.mem_of_getElem? hfi)) this
              exact ⟨q, fun f' hf' => by injection hf' with hf'; subst hf'; exact ⟨_, List.getElem?_eq_getElem (by omega), e3, e4⟩⟩
          obtain ⟨f, hf⟩ := Classical.axiomOfChoice this
          exact ⟨f, hf⟩
        obtain ⟨X, hX⟩ := hch
        have hxg : ∀ {j : Nat} {q : List PV}, ((List.range fs.size).map X)[j]? = some q → j < fs.size ∧ q = X j := by
          intro j q hj
          have hjl : j < fs.size := by have := (List.getElem?_eq_some_iff.1 hj).1; simpa using this
          rw [List.getElem?_map, List.getElem?_range hjl] at hj
          injection hj with hj
          exact ⟨hjl, hj.symm⟩
        refine ⟨((List.range fs.size).map X).flatten, ?_, .struct hu (by simpa using hxl) (by simp) (fun j f d q hf hd hq => ?_)⟩
        · refine repL_flatten (fs.toList.map fun f => P.cellsOf f.type) _ cs (by simp) (fun j m q hj hq => ?_) (by rw [hcl, kc])
          obtain ⟨hjl, rfl⟩ := hxg hq
          rw [List.getElem?_map] at hj
          obtain ⟨f, hfj, rfl⟩ := Option.map_eq_some_iff.1 hj
          have hfj' : fs[j]? = some f := by rw [← Array.getElem?_toList]; exact hfj
          obtain ⟨y, e1, e2, e3⟩ := hX j f hfj'
          rw [← List.map_take, ← ko j f hfj]
          exact e2
        · obtain ⟨hjl, rfl⟩ := hxg hq
          obtain ⟨y, e1, e2, e3⟩ := hX j f hf
          rw [List.getElem?_map, e1] at hd
          injection hd with hd
          subst hd
          exact e3
      | some (.array m e), hu =>
        obtain ⟨xs, n, hf, hx, hcl, hxl, hfs⟩ := DataW.trod_array hu h
        injection hx with h1 h2
        subst h1
        have hf' : n = fuel := by omega
        subst hf'
        obtain ⟨ke, kc⟩ := kid_array hl ht hu
        have hch : ∃ X : Nat → List PV, ∀ (i : Nat), i < m → ∃ y : DataW H × List MemPlace, xs[i]? = some y ∧ RepL W ((cs.drop (i * P.cellsOf e)).take (P.cellsOf e)) (X i) ∧ TV P e y.1 (X i) := by
          have : ∀ i : Nat, ∃ z : List PV, i < m → ∃ y : DataW H × List MemPlace, xs[i]? = some y ∧ RepL W ((cs.drop (i * P.cellsOf e)).take (P.cellsOf e)) z ∧ TV P e y.1 z := by
            intro i
            by_cases hi : i < m
            · have := hfs i hi
              rw [List.getElem?_eq_getElem (by omega : i < xs.length)] at this
              obtain ⟨q, e3, e4⟩ := trod_tv hl n e _ _ _ ke this
              exact ⟨q, fun _ => ⟨_, List.getElem?_eq_getElem (by omega), e3, e4⟩⟩
            · exact ⟨[], fun h => (hi h).elim⟩
          obtain ⟨f, hf⟩ := Classical.axiomOfChoice this
          exact ⟨f, hf⟩
        obtain ⟨X, hX⟩ := hch
        have hxg : ∀ {j : Nat} {q : List PV}, ((List.range m).map X)[j]? = some q → j < m ∧ q = X j := by
          intro j q hj
          have hjl : j < m := by have := (List.getElem?_eq_some_iff.1 hj).1; simpa using this
          rw [List.getElem?_map, List.getElem?_range hjl] at hj
          injection hj with hj
          exact ⟨hjl, hj.symm⟩
        refine ⟨((List.range m).map X).flatten, ?_, .array hu (by simpa using hxl) (by simp) (fun j d q hd hq => ?_)⟩
        · refine repL_flatten (List.replicate m (P.cellsOf e)) _ cs (by simp) (fun j k q hj hq => ?_) (by rw [hcl, kc]; simp)
          obtain ⟨hjl, rfl⟩ := hxg hq
          rw [List.getElem?_replicate, if_pos hjl] at hj
          injection hj with hj
          subst hj
          obtain ⟨y, e1, e2, e3⟩ := hX j hjl
          rw [List.take_replicate, Nat.min_eq_left (by omega)]
          simpa using e2
        · obtain ⟨hjl, rfl⟩ := hxg hq
          obtain ⟨y, e1, e2, e3⟩ := hX j hjl
          rw [List.getElem?_map, e1] at hd
          injection hd with hd
          subst hd
          exact e3
      | none, hu => exact junk (by simp) (by simp) (by simp) (by simp) (by simp) (by simp) (by simp)
      | some .invalid, hu => exact junk (by simp) (by simp) (by simp) (by simp) (by simp) (by simp) (by simp)
      | some (.float k), hu => exact junk (by simp) (by simp) (by simp) (by simp) (by simp) (by simp) (by simp)
      | some (.complex k), hu => exact junk (by simp) (by simp) (by simp) (by simp) (by simp) (by simp) (by simp)
      | some .unsafePointer, hu => exact junk (by simp) (by simp) (by simp) (by simp) (by simp) (by simp) (by simp)
      | some (.map k e), hu => exact junk (by simp) (by simp) (by simp) (by simp) (by simp) (by simp) (by simp)
      | some (.chan a b), hu => exact junk (by simp) (by simp) (by simp) (by simp) (by simp) (by simp) (by simp)
      | some (.func a b c), hu => exact junk (by simp) (by simp) (by simp) (by simp) (by simp) (by simp) (by simp)
      | some (.interface a), hu => exact junk (by simp) (by simp) (by simp) (by simp) (by simp) (by simp) (by simp)
      | some (.tuple a), hu => exact junk (by simp) (by simp) (by simp) (by simp) (by simp) (by simp) (by simp)
      | some (.named a b), hu => exact junk (by simp) (by simp) (by simp) (by simp) (by simp) (by simp) (by simp)
    exact key _ rfl
end
end Go.AM
set_option linter.unusedVariables false
set_option linter.unusedSimpArgs false
namespace Go.AM
open Go.RowKit Go.ChangeShapes Go.WideShapes Go.ChangeAt
def isAggT (P : Program) (t : TypeId) : Bool := match P.underlying t with
  | some (.struct _) => true
  | some (.array _ _) => true
  | _ => false
def AV {H : Type} (P : Program) (t : TypeId) (d : DataW H) (q : PV) : Prop :=
  if isAggT P t = true then ∃ qs, q = .agg qs ∧ TV P t d qs else TV P t d [q]
def AVs {H : Type} (P : Program) : List TypeId → List (DataW H) → List PV → Prop
  | [], [], [] => True
  | t :: ts, d :: ds, q :: qs => AV P t d q ∧ AVs P ts ds qs
  | _, _, _ => False
section
variable {H : Type} {enc : TypeId × Value → H} {P : Program} {W : World}
theorem cells_of_cell {v : Value} (h : ∀ cs, v ≠ .agg cs) : v.cells.toList = [v] := by
  cases v <;> first | rfl | (rename_i cs; exact (h cs rfl).elim)
theorem arg_av (hl : laidOutB P = true) {r : Reach} {base : Nat} {t : TypeId} (ht : t < P.types.size) {v : Value} {d : DataW H} {ps : List MemPlace} (hval : Value.okWide P W r base t v) (hd : DataW.Trod enc P W 0 (fun _ => true) true t v d ps) :
    ∃ q, Rep noG (fun _ => False) W v q ∧ AV P t d q := by
  obtain ⟨fuel, hf⟩ := hd
  obtain ⟨qs, hq1, hq2⟩ := trod_tv hl fuel t _ d ps ht hf
  unfold AV
  by_cases hg : isAggT P t = true
  · simp only [if_pos hg]
    have : ∃ cs, v = .agg cs := by
      unfold Value.okWide at hval
      unfold isAggT at hg
      split at hg
      · rename_i fs hu; rw [hu] at hval; obtain ⟨cs, h1, _⟩ := hval; exact ⟨cs, h1⟩
      · rename_i m e hu; rw [hu] at hval; obtain ⟨cs, h1, _⟩ := hval; exact ⟨cs, h1⟩
      · cases hg
    obtain ⟨cs, rfl⟩ := this
    refine ⟨.agg qs, .agg qs cs (by have := hq1.1; simp [Value.cells] at this; omega) (fun i c hc => ?_), qs, rfl, hq2⟩
    have hlt : i < cs.size := by have := (List.getElem?_eq_some_iff.1 hc).1; have h2 := hq1.1; simp [Value.cells] at h2; omega
    refine hq1.2 i _ c ?_ hc
    simp [Value.cells, Array.getD_eq_getD_getElem?, Array.getElem?_eq_getElem hlt, hlt]
  · simp only [if_neg hg]
    have hna : ∀ cs, v ≠ .agg cs := by
      rintro cs rfl
      have hc : Cell.okWide P W r base t (.agg cs) := by
        unfold Value.okWide at hval
        unfold isAggT at hg
        split at hval
        · rename_i fs hu; rw [hu] at hg; exact (hg rfl).elim
        · rename_i m e hu; rw [hu] at hg; exact (hg rfl).elim
        · exact hval
      unfold Cell.okWide at hc
      split at hc <;> first | (unfold Cell.ok at hc; split at hc <;> simp_all) | simp_all
    rw [cells_of_cell hna] at hq1
    match qs, hq1, hq2 with
    | [q], hq1, hq2 => exact ⟨q, hq1.2 0 v q rfl rfl, hq2⟩
    | [], hq1, _ => exact absurd hq1.1 (by simp)
    | _ :: _ :: _, hq1, _ => exact absurd hq1.1 (by simp)
theorem args_av (hl : laidOutB P = true) {r : Reach} {base : Nat} : ∀ {ts : List TypeId} {vs : List Value} {ds : List (DataW H)} {ps : List MemPlace}, (∀ t ∈ ts, t < P.types.size) →
    (∀ (j : Nat) (t : TypeId) (v : Value), ts[j]? = some t → vs[j]? = some v → Value.okWide P W r base t v) → DataW.TrodAll enc P W 0 (fun _ => true) true ts vs ds ps →
    ∃ qs : List PV, qs.length = vs.length ∧ (∀ (i : Nat) (v : Value) (q : PV), vs[i]? = some v → qs[i]? = some q → Rep noG (fun _ => False) W v q) ∧ AVs P ts ds qs
  | [], vs, ds, ps, ht, hv, h => by
    obtain ⟨rfl, rfl, rfl⟩ := trodAll_nil h
    exact ⟨[], rfl, fun i v q h => by simp at h, trivial⟩
  | t :: ts, vs, ds, ps, ht, hv, h => by
    obtain ⟨v, vs', d, ds', p, q, rfl, rfl, rfl, h1, h2⟩ := trodAll_cons h
    obtain ⟨x, hx1, hx2⟩ := arg_av hl (ht t (by simp)) (hv 0 t v rfl rfl) h1
    obtain ⟨xs, k1, k2, k3⟩ := args_av hl (ts := ts) (vs := vs') (fun t h => ht t (by simp [h])) (fun j t v hj hj' => hv (j + 1) t v (by simpa using hj) (by simpa using hj')) h2
    exact ⟨x :: xs, by simp [k1], fun i v q hi hq => by
      cases i with
      | zero => simp at hi hq; subst hi hq; exact hx1
      | succ i => exact k2 i v q (by simpa using hi) (by simpa using hq), hx2, k3⟩
theorem reread (hl : laidOutB P = true) {W' : World} (hb : Below W.heap.size W W') : ∀ {ts : List TypeId} {vs : List Value} {ds : List (DataW H)} {ps : List MemPlace}, (ts.all fun t => P.readableRec t && decide (t < P.types.size)) = true →
    DataW.TrodAll enc P W 0 (fun _ => true) true ts vs ds ps → (∀ x ∈ ps, x.block < W.heap.size) → DataW.TrodAll enc P W' 0 (fun b => decide (b < W.heap.size)) true ts vs ds ps
  | [], vs, ds, ps, ht, h, hlt => by
    obtain ⟨rfl, rfl, rfl⟩ := trodAll_nil h
    exact trodAll_mk0
  | t :: ts, vs, ds, ps, ht, h, hlt => by
    obtain ⟨v, vs', d, ds', p, q, rfl, rfl, rfl, h1, h2⟩ := trodAll_cons h
    simp only [List.all_cons, Bool.and_eq_true, decide_eq_true_eq] at ht
    exact trodAll_cons_mk (Below.trod hl ht.1.1 ht.1.2 h1 hb (fun x hx => hlt x (by simp [hx]))) (reread hl hb ht.2 h2 (fun x hx => hlt x (by simp [hx])))
theorem law_call [Gl] {f : FuncId} {args : Array Value} {qs : List PV} (hs : SemCall P f qs (.bool true)) (hl : qs.length = args.size) (hr : ∀ (i : Nat) (v : Value) (q : PV), args.toList[i]? = some v → qs[i]? = some q → Rep noG (fun _ => False) W v q) (hg : Gl.ok W := by exact True.intro) :
    Calls P f args W (fun e W' => e = .returned (.bool true) ∧ Below W.heap.size W W') := by
  refine (hs.2 (fun _ => False) W args (fun b h => h.elim) hg hl.symm (fun i c hc => ?_)).mono fun e W' ⟨u, he, hb, hu⟩ => ?_
  · have hlt : i < args.size := by have := (List.getElem?_eq_some_iff.1 hc).1; omega
    refine hr i _ c ?_ hc
    rw [Array.getElem?_toList, Array.getD_eq_getD_getElem?, Array.getElem?_eq_getElem hlt]
    rfl
  · subst he
    cases hu
    exact ⟨rfl, hb⟩
theorem av_cons {t : TypeId} {ts : List TypeId} {ds : List (DataW H)} {qs : List PV} (h : AVs P (t :: ts) ds qs) : ∃ d ds' q qs', ds = d :: ds' ∧ qs = q :: qs' ∧ AV P t d q ∧ AVs P ts ds' qs' := by
  match ds, qs, h with
  | d :: ds', q :: qs', h => exact ⟨d, ds', q, qs', rfl, rfl, h.1, h.2⟩
theorem av_nil {ds : List (DataW H)} {qs : List PV} (h : AVs P [] ds qs) : ds = [] ∧ qs = [] := by
  match ds, qs, h with
  | [], [], _ => exact ⟨rfl, rfl⟩
theorem av_of_tv {t : TypeId} {d : DataW H} {q : PV} (hg : isAggT P t = false) (h : AV P t d q) : TV P t d [q] := by
  unfold AV at h
  rwa [hg, if_neg (by simp)] at h
theorem tv_int {t : TypeId} {k : IntKind} {d : DataW H} {qs : List PV} (hu : P.underlying t = some (.int k)) (h : TV P t d qs) : ∃ n, d = .lit (.int k n) ∧ qs = [.int k n] ∧ k.min ≤ n ∧ n ≤ k.max := by
  cases h with
  | @int _ k' n ht hw =>
    rw [hu] at ht; injection ht with ht; injection ht with ht; subst ht
    have : k.min ≤ n ∧ n ≤ k.max := by simpa [Lit.wf] using hw
    exact ⟨n, rfl, rfl, this.1, this.2⟩
  | other h1 h2 => exact absurd hu (h2 k)
  | _ => simp_all
theorem tv_str {t : TypeId} {d : DataW H} {qs : List PV} (hu : P.underlying t = some .string) (h : TV P t d qs) : ∃ s, d = .lit (.string s) ∧ qs = [.str s] ∧ s.length ≤ maxLen := by
  cases h with
  | str ht hs => exact ⟨_, rfl, rfl, hs⟩
  | other h1 h2 h3 => exact absurd hu h3
  | _ => simp_all
theorem tv_slice {t e : TypeId} {d : DataW H} {qs : List PV} (hu : P.underlying t = some (.slice e)) (hp : 0 < P.cellsOf e) (h : TV P t d qs) : (d = .nil ∧ qs = [.nilSl]) ∨ ∃ (ds rest : List (DataW H)) (xs : List (List PV)) (full : Bool), d = .slice ds rest ∧ qs = [.sl xs full] ∧ xs.length = ds.length ∧ xs.length ≤ maxLen ∧
    (∀ (j : Nat) (cs : List PV), xs[j]? = some cs → cs.length = P.cellsOf e) ∧ ∀ (j : Nat) (d : DataW H) (cs : List PV), ds[j]? = some d → xs[j]? = some cs → TV P e d cs := by
  cases h with
  | nilSl ht => exact .inl ⟨rfl, rfl⟩
  | sl ht hp' hl hm hc h =>
    rw [hu] at ht; injection ht with ht; injection ht with ht; subst ht
    exact .inr ⟨_, _, _, _, rfl, rfl, hl, hm, hc, h⟩
  | other h1 h2 h3 h4 h5 => exact absurd hu (h5 e hp)
  | _ => simp_all
theorem tv_struct {t : TypeId} {fs : Array Field} {d : DataW H} {qs : List PV} (hu : P.underlying t = some (.struct fs)) (h : TV P t d qs) : ∃ (ds : List (DataW H)) (qss : List (List PV)), d = .agg ds ∧ qs = qss.flatten ∧ ds.length = fs.size ∧ qss.length = fs.size ∧
    ∀ (j : Nat) (f : Field) (d : DataW H) (q : List PV), fs[j]? = some f → ds[j]? = some d → qss[j]? = some q → TV P f.type d q := by
  cases h with
  | struct ht hd hq h =>
    rw [hu] at ht; injection ht with ht; injection ht with ht; subst ht
    exact ⟨_, _, rfl, rfl, hd, hq, h⟩
  | other h1 h2 h3 h4 h5 h6 => exact absurd hu (h6 fs)
  | _ => simp_all
end
end Go.AM
set_option linter.unusedVariables false
set_option linter.unusedSimpArgs false
namespace Go.AM
open Go.RowKit
def lkF (f : Nat) : List (Nat × PF) → Option PF
  | [] => none
  | (k, p) :: r => match Nat.beq f k with
    | true => some p
    | false => lkF f r
theorem lkF_mem {f : Nat} {pf : PF} : ∀ {l : List (Nat × PF)}, lkF f l = some pf → (f, pf) ∈ l
  | [], h => by cases h
  | (k, p) :: r, h => by
    simp only [lkF] at h
    cases hb : Nat.beq f k with
    | true =>
      rw [hb] at h
      injection h with h
      subst h
      rw [Nat.eq_of_beq_eq_true hb]
      exact List.mem_cons_self
    | false => rw [hb] at h; exact List.mem_cons_of_mem _ (lkF_mem h)
theorem lkF_all {P : Program} {l : List (Nat × PF)} (h : ∀ x ∈ l, FnOK P x.1 x.2) : ∀ f pf, lkF f l = some pf → FnOK P f pf := fun f pf hf => h _ (lkF_mem hf)
theorem wrap_i64 (x : Int) : IntKind.i64.wrap x = (x + 9223372036854775808) % 18446744073709551616 - 9223372036854775808 := by
  unfold IntKind.wrap
  simp [IntKind.bits, IntKind.signed, Int.bmod_def]
  omega
section
variable {T : Tb} {Q : Post} {k : List Fr} {ρ : EC} {st : St} {l : List POp} {kill : List Nat}
theorem O_rem {d : Option Nat} {x y : Opd} {kk : IntKind} {a b : Int} (hx : x.get ρ = some (.int kk a)) (hy : y.get ρ = some (.int kk b)) (hb : decide (b = 0) = false) (h : VO T Q l kill k (ρ.sets d (.int kk (a.tmod b))) st) : VO T Q (⟨d, none, .bin .rem x y⟩ :: l) kill k ρ st :=
  O_step (by simp only [stepQ, get2, hx, hy, binOp?, binInt]; simp at hb; simp [hb]) h
theorem V_cEq {x : EX} {k' : List Fr} {c : Opd} {a b : PC} {α : Type} {y : α} [inst : Decidable (y = y)] (ha : adv 200 k x = (.code (.cond c a b) :: k', .normal)) (hc : c.get ρ = some (.bool (decide (y = y)))) (h1 : V T Q (.code a :: k') .normal ρ st) : V T Q k x ρ st := V_cT ha (by rw [hc]; simp) h1
theorem V_cNe {x : EX} {k' : List Fr} {c : Opd} {a b : PC} {α : Type} {y : α} [inst : Decidable (y = y)] (ha : adv 200 k x = (.code (.cond c a b) :: k', .normal)) (hc : c.get ρ = some (.bool (!decide (y = y)))) (h1 : V T Q (.code b :: k') .normal ρ st) : V T Q k x ρ st := V_cF ha (by rw [hc]; simp) h1
theorem O_gEq {d : Option Nat} {op : PI} {t : Nat} {α : Type} {y : α} [inst : Decidable (y = y)] (hg : ρ.get t = some (.bool (decide (y = y)))) (h1 : VO T Q (⟨d, none, op⟩ :: l) kill k (.put t (.bool true) ρ) st) : VO T Q (⟨d, some (t, true), op⟩ :: l) kill k ρ st := O_gS hg (fun _ => h1) (fun h => by simp at h)
theorem O_gNe {d : Option Nat} {op : PI} {t : Nat} {α : Type} {y : α} [inst : Decidable (y = y)] (hg : ρ.get t = some (.bool (!decide (y = y)))) (h1 : VO T Q (⟨d, none, op⟩ :: l) kill k (.put t (.bool false) ρ) st) : VO T Q (⟨d, some (t, false), op⟩ :: l) kill k ρ st := O_gS hg (fun _ => h1) (fun h => by simp at h)
end
end Go.AM
set_option linter.unusedVariables false
set_option linter.unusedSimpArgs false
namespace Go.AM
open Go.RowKit
def PE (P : EX → EC → St → Prop) : Post := fun x ρ st => ∃ e, Sub e ρ ∧ P x e st
section
variable {T : Tb} {Q : Post} {k : List Fr} {ρ : EC} {st : St} {l : List POp} {kill : List Nat} {P : EX → EC → St → Prop}
theorem V_endP {x x' : EX} (ha : adv 200 k x = ([], x')) (h : P x' ρ st) : V T (PE P) k x ρ st := V_end ha fun r hr => ⟨ρ, hr, h⟩
theorem V_cutP {c : PC} (h : V T (PE P) [.code c] .normal ρ st) (hk : ∀ x e st', P x e st' → V T Q k x e st') : V T Q (.code c :: k) .normal ρ st := fun r hr =>
  W_cut (h r hr) fun x ρ' st' ⟨e, he, hp⟩ => hk x e st' hp ρ' he
theorem V_cutA {c : PC} {x : EX} {k' : List Fr} (ha : adv 200 k' x = (.code c :: k, .normal)) (h : V T (PE P) [.code c] .normal ρ st) (hk : ∀ x e st', P x e st' → V T Q k x e st') : V T Q k' x ρ st := V_adv ha (V_cutP h hk)
theorem V_monoP {P' : EX → EC → St → Prop} {x : EX} (h : V T (PE P) k x ρ st) (hP : ∀ x e st, P x e st → P' x e st) : V T (PE P') k x ρ st := fun r hr =>
  W_mono (fun x ρ st ⟨e, he, hp⟩ => ⟨e, he, hP x e st hp⟩) _ _ _ _ (h r hr)
theorem appendTo_nil {sz bytes : Nat} {src : List (List PV)} (hne : src ≠ []) (hr : src.length * bytes ≤ roomLen) : appendTo st sz bytes .nilSl src = some (.osl st.next 0 0 src.length false, st.new (.row 0 sz src true)) := by
  unfold appendTo
  rw [if_neg hne]
  simp only []
  rw [if_pos hr]
theorem appendTo_full {sz bytes : Nat} {xs src : List (List PV)} (hne : src ≠ []) (hr : (xs.length + src.length) * bytes ≤ roomLen) (ha : allOf sz xs = true) : appendTo st sz bytes (.sl xs true) src = some (.osl st.next 0 0 (xs.length + src.length) false, st.new (.row 0 sz (xs ++ src) true)) := by
  unfold appendTo
  rw [if_neg hne]
  simp only []
  rw [if_pos ⟨hr, ha⟩]
theorem appendTo_own {sz bytes t g : Nat} {es src : List (List PV)} (hne : src ≠ []) (hg : st.get t = some (.row g sz es true)) (hr : (es.length + src.length) * bytes ≤ roomLen) : appendTo st sz bytes (.osl t g 0 es.length false) src = some (.osl t (g + 1) 0 (es.length + src.length) false, st.put t (.row (g + 1) sz (es ++ src) true)) := by
  unfold appendTo
  rw [if_neg hne]
  simp only [hg]
  rw [if_pos (by refine ⟨?_, ?_, ?_, hr⟩ <;> first | trivial | omega)]
  simp
theorem appendTo_none {sz bytes : Nat} {s : PV} (hs : s = .nilSl ∨ (∃ xs f, s = .sl xs f) ∨ ∃ t g off len f, s = .osl t g off len f) : appendTo st sz bytes s [] = some (s, st) := by
  unfold appendTo
  rw [if_pos rfl]
  rcases hs with rfl | ⟨xs, f, rfl⟩ | ⟨t, g, off, len, f, rfl⟩ <;> rfl
theorem O_append {d : Option Nat} {sz bytes : Nat} {z : List PV} {s x : Opd} {p q r : PV} {src : List (List PV)} {st' : St} (hs : s.get ρ = some p) (hx : x.get ρ = some q) (hsrc : srcOf st q = some src) (hok : okEls sz src = true) (hsz : 0 < sz) (hby : 0 < bytes)
    (ha : appendTo st sz bytes p src = some (r, st')) (h : VO T Q l kill k (ρ.sets d r) st') : VO T Q (⟨d, none, .append sz bytes z s x⟩ :: l) kill k ρ st := by
  refine O_stepL ?_ h
  simp only [stepL, hs, hx, hsrc, Option.bind_some]
  rw [if_pos ⟨hok, hsz, hby⟩]
  exact ha
end
def Acc (sz : Nat) (st : St) (v : PV) (es : List (List PV)) : Prop := (v = .nilSl ∧ es = [] ∧ st = ⟨0, 0, []⟩) ∨ ∃ g, v = .osl 0 g 0 es.length false ∧ st = ⟨0, 1, [(0, .row g sz es true)]⟩
theorem Acc.append {sz bytes : Nat} {st : St} {v : PV} {es src : List (List PV)} (h : Acc sz st v es) (hne : src ≠ []) (hr : (es.length + src.length) * bytes ≤ roomLen) : ∃ v' st', appendTo st sz bytes v src = some (v', st') ∧ Acc sz st' v' (es ++ src) := by
  rcases h with ⟨rfl, rfl, rfl⟩ | ⟨g, rfl, rfl⟩
  · exact ⟨_, _, appendTo_nil hne (by simpa using hr), .inr ⟨0, by simp, rfl⟩⟩
  · refine ⟨_, _, appendTo_own (es := es) hne rfl hr, .inr ⟨g + 1, by simp, rfl⟩⟩
theorem Acc.view {sz : Nat} {st : St} {v : PV} {es : List (List PV)} (h : Acc sz st v es) (hp : ∀ cs ∈ es, ∀ c ∈ cs, Pl c) : View true st.get v (if es = [] ∧ st.next = 0 then .nilSl else .sl es false) := by
  rcases h with ⟨rfl, rfl, rfl⟩ | ⟨g, rfl, rfl⟩
  · exact .nilSl
  · rw [if_neg (by simp)]
    exact view_osl0 rfl (.inl rfl) rfl hp
end Go.AM
set_option linter.unusedVariables false
set_option linter.unusedSimpArgs false
namespace Go.AM
open Go.RowKit
theorem slice_hi {look : Nat → Option Tok} {sz : Nat} {k' : IntKind} {hi : Int} {xs : List (List PV)} {f : Bool} (ha : allOf sz xs = true) (h1 : 0 ≤ hi) (h2 : hi ≤ xs.length) :
    sliceSl? look sz none (some (.int k' hi)) none (.sl xs f) = some (.sl (xs.take hi.toNat) (f && hi.toNat == xs.length)) := by
  simp only [sliceSl?, lenOf, bound?, Option.bind_some]
  rw [if_pos (by omega)]
  simp [ha]
theorem slice_lo {look : Nat → Option Tok} {sz : Nat} {k : IntKind} {lo : Int} {xs : List (List PV)} {f : Bool} (ha : allOf sz xs = true) (h0 : 0 ≤ lo) (h2 : lo ≤ xs.length) :
    sliceSl? look sz (some (.int k lo)) none none (.sl xs f) = some (.sl (xs.drop lo.toNat) f) := by
  simp only [sliceSl?, lenOf, bound?, Option.bind_some]
  rw [if_pos (by omega)]
  simp [ha]
  rw [List.take_of_length_le (by simp)]
theorem slice_osl_lo {look : Nat → Option Tok} {sz t g off len : Nat} {k : IntKind} {lo : Int} {f lv : Bool} {es : List (List PV)} (hg : look t = some (.row g sz es lv)) (h0 : 0 ≤ lo) (h2 : lo ≤ len) :
    sliceSl? look sz (some (.int k lo)) none none (.osl t g off len f) = some (.osl t g (off + lo.toNat) (len - lo.toNat) f) := by
  simp only [sliceSl?, lenOf, bound?, Option.bind_some]
  rw [if_pos (by omega)]
  simp [hg]
theorem slice_osl_hi {look : Nat → Option Tok} {sz t g off len : Nat} {k : IntKind} {hi : Int} {f lv : Bool} {es : List (List PV)} (hg : look t = some (.row g sz es lv)) (h0 : 0 ≤ hi) (h2 : hi ≤ len) :
    sliceSl? look sz none (some (.int k hi)) none (.osl t g off len f) = some (.osl t g off hi.toNat (f && hi.toNat == len)) := by
  simp only [sliceSl?, lenOf, bound?, Option.bind_some]
  rw [if_pos (by omega)]
  simp [hg]
section
variable {T : Tb} {Q : Post} {k : List Fr} {ρ : EC} {st : St} {l : List POp} {kill : List Nat}
theorem O_slice {d : Option Nat} {x : Opd} {lo hi mx : Option Opd} {sz : Nat} {p : PV} {a b c : Option PV} (q : PV) (hx : x.get ρ = some p) (hl : getOpt ρ lo = some a) (hh : getOpt ρ hi = some b) (hm : getOpt ρ mx = some c) (hs : sliceSl? st.get sz a b c p = some q) (h : VO T Q l kill k (ρ.sets d q) st) : VO T Q (⟨d, none, .sliceSl x sz lo hi mx⟩ :: l) kill k ρ st :=
  O_step (by simp only [stepQ, get1, hx, hl, hh, hm]; exact hs) h
theorem O_idx {d : Option Nat} {x i : Opd} {sz : Nat} {xs : List (List PV)} {f : Bool} {kk : IntKind} {n : Int} (cs : List PV) (hx : x.get ρ = some (.sl xs f)) (hi : i.get ρ = some (.int kk n)) (h0 : 0 ≤ n) (hc : xs[n.toNat]? = some cs) (hl : cs.length = sz) (h : VO T Q l kill k (ρ.sets d (.iptr cs 0)) st) : VO T Q (⟨d, none, .indexS x i sz⟩ :: l) kill k ρ st :=
  O_step (by simp only [stepQ, get2, hx, hi, indexed, indexS?]; rw [if_pos h0, hc]; simp [hl]) h
theorem O_idxOwn {d : Option Nat} {x i : Opd} {sz t g off len : Nat} {f lv : Bool} {es : List (List PV)} {kk : IntKind} {n : Int} (hx : x.get ρ = some (.osl t g off len f)) (hi : i.get ρ = some (.int kk n)) (hg : st.get t = some (.row g sz es lv)) (h0 : 0 ≤ n ∧ n < len) (h : VO T Q l kill k (ρ.sets d (.rptr t g (off + n.toNat) 0)) st) : VO T Q (⟨d, none, .indexS x i sz⟩ :: l) kill k ρ st :=
  O_step (by simp only [stepQ, get2, hx, hi, indexed, indexS?]; rw [if_pos h0, hg]; simp) h
theorem O_chr {d : Option Nat} {x i : Opd} {s : List UInt8} {kk : IntKind} {n : Int} (b : UInt8) (hx : x.get ρ = some (.str s)) (hi : i.get ρ = some (.int kk n)) (h0 : 0 ≤ n) (hc : s[n.toNat]? = some b) (h : VO T Q l kill k (ρ.sets d (.int .u8 b.toNat)) st) : VO T Q (⟨d, none, .indexStr x i⟩ :: l) kill k ρ st :=
  O_step (by simp only [stepQ, get2, hx, hi, indexed, indexStr?]; rw [if_pos h0, hc]; simp) h
end
theorem okEls_bytes (s : List UInt8) : okEls 1 (byteCells s) = true := by
  simp [okEls, byteCells, PV.one]
theorem allOf_bytes (s : List UInt8) : allOf 1 (byteCells s) = true := by
  simp [allOf, byteCells]
theorem byteCells_append (a b : List UInt8) : byteCells (a ++ b) = byteCells a ++ byteCells b := by simp [byteCells]
theorem byteCells_length (a : List UInt8) : (byteCells a).length = a.length := by simp [byteCells]
theorem byteCells_take (a : List UInt8) (n : Nat) : (byteCells a).take n = byteCells (a.take n) := by simp [byteCells]
theorem byteCells_drop (a : List UInt8) (n : Nat) : (byteCells a).drop n = byteCells (a.drop n) := by simp [byteCells]
inductive BV : PV → List UInt8 → Prop
  | nil : BV .nilSl []
  | sl (s : List UInt8) (full : Bool) : BV (.sl (byteCells s) full) s
theorem BV.pl {v : PV} {s : List UInt8} (h : BV v s) : Pl v := by
  cases h with
  | nil => exact .nilSl
  | sl s f => exact .sl _ _ (pl_bytes s)
theorem BV.elems {v : PV} {s : List UInt8} (h : BV v s) (look : Nat → Option Tok) : elemsOf look v = some (byteCells s) := by
  cases h <;> rfl
theorem BV.len {v : PV} {s : List UInt8} (h : BV v s) : lenOf v = some s.length := by
  cases h with
  | nil => rfl
  | sl s f => simp [lenOf, byteCells]
theorem BV.notStr {v : PV} {s : List UInt8} (h : BV v s) : isStr v = false := by cases h <;> rfl
theorem BV.hi {v : PV} {s : List UInt8} (h : BV v s) (look : Nat → Option Tok) {k : IntKind} {m : Int} (h0 : 0 ≤ m) (h1 : m ≤ s.length) : ∃ v', sliceSl? look 1 none (some (.int k m)) none v = some v' ∧ BV v' (s.take m.toNat) := by
  cases h with
  | nil =>
    have : m = 0 := by simp at h1; omega
    subst this
    exact ⟨.nilSl, by simp [sliceSl?, lenOf, bound?], .nil⟩
  | sl s f => exact ⟨_, slice_hi (allOf_bytes s) h0 (by rw [byteCells_length]; exact h1), by rw [byteCells_take]; exact .sl _ _⟩
theorem BV.lo {v : PV} {s : List UInt8} (h : BV v s) (look : Nat → Option Tok) {k : IntKind} {m : Int} (h0 : 0 ≤ m) (h1 : m ≤ s.length) : ∃ v', sliceSl? look 1 (some (.int k m)) none none v = some v' ∧ BV v' (s.drop m.toNat) := by
  cases h with
  | nil =>
    have : m = 0 := by simp at h1; omega
    subst this
    exact ⟨.nilSl, by simp [sliceSl?, lenOf, bound?], .nil⟩
  | sl s f => exact ⟨_, slice_lo (allOf_bytes s) h0 (by rw [byteCells_length]; exact h1), by rw [byteCells_drop]; exact .sl _ _⟩
end Go.AM
set_option linter.unusedVariables false
set_option linter.unusedSimpArgs false
namespace Go.AM
open Go.RowKit
inductive LV {α : Type} (c : α → List PV) : PV → List α → Prop
  | nil : LV c .nilSl []
  | sl (l : List α) (full : Bool) : LV c (.sl (l.map c) full) l
section
variable {α : Type} {c : α → List PV} {v : PV} {l : List α}
theorem LV.pl (h : LV c v l) (hp : ∀ a ∈ l, ∀ x ∈ c a, Pl x) : Pl v := by
  cases h with
  | nil => exact .nilSl
  | sl l f =>
    refine .sl _ _ fun cs hcs x hx => ?_
    obtain ⟨a, ha, rfl⟩ := List.mem_map.1 hcs
    exact hp a ha x hx
theorem LV.elems (h : LV c v l) (look : Nat → Option Tok) : elemsOf look v = some (l.map c) := by cases h <;> rfl
theorem LV.len (h : LV c v l) : lenOf v = some l.length := by
  cases h with
  | nil => rfl
  | sl l f => simp [lenOf]
theorem LV.notStr (h : LV c v l) : isStr v = false := by cases h <;> rfl
theorem LV.src (h : LV c v l) (st : St) : srcOf st v = some (l.map c) := by cases h <;> rfl
theorem allOf_map {sz : Nat} (hs : ∀ a ∈ l, (c a).length = sz) : allOf sz (l.map c) = true := by
  simp only [allOf, List.all_eq_true, List.mem_map, forall_exists_index, and_imp, forall_apply_eq_imp_iff₂, beq_iff_eq]
  exact hs
theorem LV.lo (h : LV c v l) (look : Nat → Option Tok) {sz : Nat} (hs : ∀ a ∈ l, (c a).length = sz) {k : IntKind} {m : Int} (h0 : 0 ≤ m) (h1 : m ≤ l.length) : ∃ v', sliceSl? look sz (some (.int k m)) none none v = some v' ∧ LV c v' (l.drop m.toNat) := by
  cases h with
  | nil =>
    have : m = 0 := by simp at h1; omega
    subst this
    exact ⟨.nilSl, by simp [sliceSl?, lenOf, bound?], .nil⟩
  | sl s f => exact ⟨_, slice_lo (allOf_map hs) h0 (by simpa using h1), by rw [← List.map_drop]; exact .sl _ _⟩
theorem LV.hi (h : LV c v l) (look : Nat → Option Tok) {sz : Nat} (hs : ∀ a ∈ l, (c a).length = sz) {k : IntKind} {m : Int} (h0 : 0 ≤ m) (h1 : m ≤ l.length) : ∃ v', sliceSl? look sz none (some (.int k m)) none v = some v' ∧ LV c v' (l.take m.toNat) := by
  cases h with
  | nil =>
    have : m = 0 := by simp at h1; omega
    subst this
    exact ⟨.nilSl, by simp [sliceSl?, lenOf, bound?], .nil⟩
  | sl s f => exact ⟨_, slice_hi (allOf_map hs) h0 (by simpa using h1), by rw [← List.map_take]; exact .sl _ _⟩
end
section
variable {T : Tb} {Q : Post} {k : List Fr} {ρ : EC} {st : St} {l : List POp} {kill : List Nat} {α : Type} {c : α → List PV}
theorem O_lenL {d : Option Nat} {x : Opd} {v : PV} {s : List α} (hx : x.get ρ = some v) (hv : LV c v s) (h : VO T Q l kill k (ρ.sets d (.int .i64 s.length)) st) : VO T Q (⟨d, none, .len false x⟩ :: l) kill k ρ st :=
  O_step (by simp only [stepQ, get1, hx, hv.len, hv.notStr]; rfl) h
theorem O_idxL {d : Option Nat} {x i : Opd} {sz : Nat} {v : PV} {s : List α} {kk : IntKind} {n : Int} (a : α) (hx : x.get ρ = some v) (hv : LV c v s) (hi : i.get ρ = some (.int kk n)) (h0 : 0 ≤ n) (ha : s[n.toNat]? = some a) (hl : (c a).length = sz) (h : VO T Q l kill k (ρ.sets d (.iptr (c a) 0)) st) : VO T Q (⟨d, none, .indexS x i sz⟩ :: l) kill k ρ st := by
  cases hv with
  | nil => simp at ha
  | sl s f => exact O_idx (c a) hx hi h0 (by rw [List.getElem?_map, ha]; rfl) hl h
end
def tokOf : PV → Option Nat
  | .osl t _ _ _ _ => some t
  | _ => none
def AccT (sz : Nat) (st : St) (v : PV) (es : List (List PV)) : Prop := (v = .nilSl ∧ es = []) ∨ ∃ t g, v = .osl t g 0 es.length false ∧ st.get t = some (.row g sz es true) ∧ t < st.next
theorem AccT.append {sz bytes : Nat} {st : St} {v : PV} {es src : List (List PV)} (h : AccT sz st v es) (hne : src ≠ []) (hr : (es.length + src.length) * bytes ≤ roomLen) :
    ∃ v' st', appendTo st sz bytes v src = some (v', st') ∧ AccT sz st' v' (es ++ src) ∧ st'.base = st.base ∧ st.next ≤ st'.next ∧ (tokOf v' = tokOf v ∨ tokOf v = none ∧ tokOf v' = some st.next) ∧ ∀ u, tokOf v' ≠ some u → st'.get u = st.get u := by
  rcases h with ⟨rfl, rfl⟩ | ⟨t, g, rfl, hg, hlt⟩
  · refine ⟨_, _, appendTo_nil hne (by simpa using hr), .inr ⟨st.next, 0, by simp, by simp [St.get, St.new, getA_putA], by simp [St.new]⟩, rfl, by simp [St.new], .inr ⟨rfl, rfl⟩, fun u hu => ?_⟩
    simp only [St.get, St.new, getA_putA]
    rw [if_neg (fun e => hu (by rw [← e]; rfl))]
  · refine ⟨_, _, appendTo_own (es := es) hne hg hr, .inr ⟨t, g + 1, by simp, by simp [St.get, St.put, getA_putA], hlt⟩, rfl, Nat.le_refl _, .inl rfl, fun u hu => ?_⟩
    simp only [St.get, St.put, getA_putA]
    rw [if_neg (fun e => hu (by rw [← e]; rfl))]
theorem AccT.keep {sz : Nat} {st st' : St} {v' w : PV} {es : List (List PV)} (h : AccT sz st w es) (hn : st.next ≤ st'.next) (hk : ∀ u, tokOf v' ≠ some u → st'.get u = st.get u) (hd : ∀ u, tokOf w = some u → tokOf v' ≠ some u) : AccT sz st' w es := by
  rcases h with ⟨rfl, rfl⟩ | ⟨t, g, rfl, hg, hlt⟩
  · exact .inl ⟨rfl, rfl⟩
  · exact .inr ⟨t, g, rfl, by rw [hk t (hd t rfl)]; exact hg, by omega⟩
theorem AccT.apart {sz : Nat} {st : St} {v v' w : PV} {es : List (List PV)} (h : AccT sz st w es) (ht : tokOf v' = tokOf v ∨ tokOf v = none ∧ tokOf v' = some st.next) (hd : ∀ u, tokOf w = some u → tokOf v ≠ some u) : ∀ u, tokOf w = some u → tokOf v' ≠ some u := by
  intro u hu hv
  rcases ht with h1 | ⟨_, h1⟩
  · exact hd u hu (by rw [← h1]; exact hv)
  · rw [h1] at hv
    injection hv with hv
    subst hv
    rcases h with ⟨rfl, _⟩ | ⟨t, g, rfl, hg, hlt⟩
    · cases hu
    · injection hu with hu; omega
def Win (sz : Nat) (st : St) (v : PV) (es : List (List PV)) : Prop := (v = .nilSl ∧ es = []) ∨ ∃ t g off f rs lv, v = .osl t g off es.length f ∧ st.get t = some (.row g sz rs lv) ∧ off + es.length ≤ rs.length ∧ (rs.drop off).take es.length = es
theorem AccT.win {sz : Nat} {st : St} {v : PV} {es : List (List PV)} (h : AccT sz st v es) : Win sz st v es := by
  rcases h with ⟨rfl, rfl⟩ | ⟨t, g, rfl, hg, hlt⟩
  · exact .inl ⟨rfl, rfl⟩
  · exact .inr ⟨t, g, 0, false, es, true, rfl, hg, by omega, by simp⟩
theorem Win.len {sz : Nat} {st : St} {v : PV} {es : List (List PV)} (h : Win sz st v es) : lenOf v = some es.length ∧ isStr v = false := by
  rcases h with ⟨rfl, rfl⟩ | ⟨t, g, off, f, rs, lv, rfl, hg, hb, he⟩
  · exact ⟨rfl, rfl⟩
  · exact ⟨rfl, rfl⟩
theorem Win.tail {sz : Nat} {st : St} {v : PV} {e : List PV} {es : List (List PV)} {k : IntKind} (h : Win sz st v (e :: es)) : ∃ v', sliceSl? st.get sz (some (.int k 1)) none none v = some v' ∧ Win sz st v' es := by
  rcases h with ⟨rfl, h⟩ | ⟨t, g, off, f, rs, lv, rfl, hg, hb, he⟩
  · cases h
  · refine ⟨_, slice_osl_lo hg (by omega) (by simp; omega), .inr ⟨t, g, off + 1, f, rs, lv, by simp, hg, by simp at hb; omega, ?_⟩⟩
    rw [← List.drop_drop]
    have : (rs.drop off).take (es.length + 1) = e :: es := by simpa using he
    cases hd : rs.drop off with
    | nil => rw [hd] at this; simp at this
    | cons a r => rw [hd] at this; simp at this; simp; exact this.2
end Go.AM
set_option linter.unusedVariables false
set_option linter.unusedSimpArgs false
namespace Go.AM
open Go.RowKit
section
variable {T : Tb} {Q : Post} {k : List Fr} {ρ : EC} {st : St} {l : List POp} {kill : List Nat} {m j : Nat} {A B : St}
theorem D_chr {d : Option Nat} {x i : Opd} {s : List UInt8} {kk : IntKind} {n : Int} (b : UInt8) (hx : x.get ρ = some (.str s)) (hi : i.get ρ = some (.int kk n)) (h0 : 0 ≤ n) (hc : s[n.toNat]? = some b) (h : VD T Q l kill k (ρ.sets d (.int .u8 b.toNat)) st) : VD T Q (⟨d, none, .indexStr x i⟩ :: l) kill k ρ st :=
  D_step (by simp only [stepQ, get2, hx, hi, indexed, indexStr?]; rw [if_pos h0, hc]; simp) h
theorem D_idx {d : Option Nat} {x i : Opd} {sz : Nat} {xs : List (List PV)} {f : Bool} {kk : IntKind} {n : Int} (cs : List PV) (hx : x.get ρ = some (.sl xs f)) (hi : i.get ρ = some (.int kk n)) (h0 : 0 ≤ n) (hc : xs[n.toNat]? = some cs) (hl : cs.length = sz) (h : VD T Q l kill k (ρ.sets d (.iptr cs 0)) st) : VD T Q (⟨d, none, .indexS x i sz⟩ :: l) kill k ρ st :=
  D_step (by simp only [stepQ, get2, hx, hi, indexed, indexS?]; rw [if_pos h0, hc]; simp [hl]) h
end
end Go.AM
