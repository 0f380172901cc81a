/- AM23: a run, found step by step. -/
import Derived.Test.YthoknkogdldgcaaAm22
set_option linter.unusedVariables false
set_option linter.unusedSimpArgs false
namespace Go.AM
open Go.RowKit

structure Tb where
  tbl : Nat → Option PF
  prim : Nat → List PV → PV → Prop
  ext : Nat → List PV → PV → Prop
abbrev Tb.R (T : Tb) (j : J) : Prop := Run T.tbl T.prim T.ext j

/-- What is to be done yet. -/
inductive Fr where
  | code (c : PC)
  | block (id : Nat)

abbrev Post := EX → Env → St → Prop

/-- From x on, what is to be done yet ends well. -/
def W (T : Tb) (Q : Post) : List Fr → EX → Env → St → Prop
  | [], x, ρ, st => Q x ρ st
  | .code c :: k, .normal, ρ, st => ∃ x1 ρ1 st1, T.R (.code c ρ st x1 ρ1 st1) ∧ W T Q k x1 ρ1 st1
  | .code c :: k, .exit i, ρ, st => W T Q k (.exit i) ρ st
  | .code c :: k, .ret, ρ, st => W T Q k .ret ρ st
  | .block id :: k, x, ρ, st => W T Q k (if x = .exit id then .normal else x) ρ st

/-- The rest of a region. -/
def O (T : Tb) (Q : Post) (l : List POp) (kill : List Nat) (k : List Fr) (ρ : Env) (st : St) : Prop :=
  ∃ ρ1 st1, T.R (.ops l ρ st ρ1 st1) ∧ W T Q k .normal (dropA kill ρ1) st1
/-- The rest of a region whose order is drawn. -/
def D (T : Tb) (Q : Post) (l : List POp) (kill : List Nat) (k : List Fr) (ρ : Env) (st : St) : Prop :=
  ∃ ρ1, T.R (.drawn l ρ st ρ1) ∧ W T Q k .normal (dropA kill ρ1) st
def kOf (r : Option PV) (K : PV → Prop) : Prop := ∃ p, r = some p ∧ K p

section
variable {T : Tb} {Q : Post} {k : List Fr} {ρ : Env} {st : St} {l : List POp} {kill : List Nat}

theorem W_nil {x : EX} (h : Q x ρ st) : W T Q [] x ρ st := h
theorem W_skip (h : W T Q k .normal ρ st) : W T Q (.code .skip :: k) .normal ρ st := ⟨_, _, _, .skip _ _, h⟩
theorem W_seq {a b : PC} (h : W T Q (.code a :: .code b :: k) .normal ρ st) : W T Q (.code (.seq a b) :: k) .normal ρ st := by
  obtain ⟨x1, ρ1, st1, h1, h2⟩ := h
  cases x1 with
  | normal =>
    obtain ⟨x2, ρ2, st2, h3, h4⟩ := h2
    exact ⟨_, _, _, .seqN _ _ _ _ _ _ _ _ _ h1 h3, h4⟩
  | exit i => exact ⟨_, _, _, .seqX _ _ _ _ _ _ _ (by simp) h1, h2⟩
  | ret => exact ⟨_, _, _, .seqX _ _ _ _ _ _ _ (by simp) h1, h2⟩
theorem W_cond {c : Opd} {a b : PC} {t : Bool} (hc : c.ev ρ = .bool t) (h : W T Q (.code (if t then a else b) :: k) .normal ρ st) : W T Q (.code (.cond c a b) :: k) .normal ρ st := by
  obtain ⟨x1, ρ1, st1, h1, h2⟩ := h
  exact ⟨_, _, _, .cond _ _ _ _ _ _ _ _ _ hc h1, h2⟩
theorem W_condT {c : Opd} {a b : PC} (hc : c.ev ρ = .bool true) (h : W T Q (.code a :: k) .normal ρ st) : W T Q (.code (.cond c a b) :: k) .normal ρ st := W_cond hc h
theorem W_condF {c : Opd} {a b : PC} (hc : c.ev ρ = .bool false) (h : W T Q (.code b :: k) .normal ρ st) : W T Q (.code (.cond c a b) :: k) .normal ρ st := W_cond hc h
/-- Both ways of a condition. -/
theorem W_if {c : Opd} {a b : PC} {p : Prop} [Decidable p] (hc : c.ev ρ = .bool (decide p)) (h1 : p → W T Q (.code a :: k) .normal ρ st) (h2 : ¬ p → W T Q (.code b :: k) .normal ρ st) : W T Q (.code (.cond c a b) :: k) .normal ρ st := by
  refine W_cond hc ?_
  by_cases h : p
  · rw [if_pos (by simpa using h)]; exact h1 h
  · rw [if_neg (by simpa using h)]; exact h2 h
theorem W_block {id : Nat} {c : PC} (h : W T Q (.code c :: .block id :: k) .normal ρ st) : W T Q (.code (.block id c) :: k) .normal ρ st := by
  obtain ⟨x1, ρ1, st1, h1, h2⟩ := h
  exact ⟨_, _, _, .block _ _ _ _ _ _ _ h1, h2⟩
theorem W_exit {id : Nat} (h : W T Q k (.exit id) ρ st) : W T Q (.code (.exit id) :: k) .normal ρ st := ⟨_, _, _, .exit _ _ _, h⟩
theorem W_ret (h : W T Q k .ret ρ st) : W T Q (.code .ret :: k) .normal ρ st := ⟨_, _, _, .ret _ _, h⟩
theorem W_exitCode {c : PC} {i : Nat} (h : W T Q k (.exit i) ρ st) : W T Q (.code c :: k) (.exit i) ρ st := h
theorem W_retCode {c : PC} (h : W T Q k .ret ρ st) : W T Q (.code c :: k) .ret ρ st := h
theorem W_blockN {id : Nat} (h : W T Q k .normal ρ st) : W T Q (.block id :: k) .normal ρ st := h
theorem W_blockR {id : Nat} (h : W T Q k .ret ρ st) : W T Q (.block id :: k) .ret ρ st := h
theorem W_blockE {id : Nat} (h : W T Q k .normal ρ st) : W T Q (.block id :: k) (.exit id) ρ st := by
  simp only [W, if_true]
  exact h
theorem W_blockO {id i : Nat} (hi : i ≠ id) (h : W T Q k (.exit i) ρ st) : W T Q (.block id :: k) (.exit i) ρ st := by
  have : (EX.exit i = EX.exit id) = False := by simp [hi]
  simp only [W, this, if_false]
  exact h
theorem W_loop {c : PC} (h : W T Q (.code c :: .code (.loop c) :: k) .normal ρ st) : W T Q (.code (.loop c) :: k) .normal ρ st := by
  obtain ⟨x1, ρ1, st1, h1, h2⟩ := h
  cases x1 with
  | normal =>
    obtain ⟨x2, ρ2, st2, h3, h4⟩ := h2
    exact ⟨_, _, _, .loopN _ _ _ _ _ _ _ _ h1 h3, h4⟩
  | exit i => exact ⟨_, _, _, .loopX _ _ _ _ _ _ (by simp) h1, h2⟩
  | ret => exact ⟨_, _, _, .loopX _ _ _ _ _ _ (by simp) h1, h2⟩
theorem W_weak {c : PC} {ρ' : Env} {st' : St} (hw : Weak ρ st ρ' st') (h : W T Q (.code c :: k) .normal ρ' st') : W T Q (.code c :: k) .normal ρ st := by
  obtain ⟨x1, ρ1, st1, h1, h2⟩ := h
  exact ⟨_, _, _, .weak _ _ _ _ _ _ _ _ hw h1, h2⟩
theorem W_mono {Q' : Post} (hQ : ∀ x ρ st, Q x ρ st → Q' x ρ st) : ∀ (k : List Fr) (x : EX) (ρ : Env) (st : St), W T Q k x ρ st → W T Q' k x ρ st
  | [], x, ρ, st, h => hQ x ρ st h
  | .code c :: k, .normal, ρ, st, ⟨x1, ρ1, st1, h1, h2⟩ => ⟨x1, ρ1, st1, h1, W_mono hQ k _ _ _ h2⟩
  | .code c :: k, .exit i, ρ, st, h => W_mono hQ k _ _ _ h
  | .code c :: k, .ret, ρ, st, h => W_mono hQ k _ _ _ h
  | .block id :: k, x, ρ, st, h => W_mono hQ k _ _ _ h
theorem W_append : ∀ (k k' : List Fr) (x : EX) (ρ : Env) (st : St), W T (fun x ρ st => W T Q k' x ρ st) k x ρ st → W T Q (k ++ k') x ρ st
  | [], k', x, ρ, st, h => h
  | .code c :: k, k', .normal, ρ, st, ⟨x1, ρ1, st1, h1, h2⟩ => ⟨x1, ρ1, st1, h1, W_append k k' _ _ _ h2⟩
  | .code c :: k, k', .exit i, ρ, st, h => W_append k k' _ _ _ h
  | .code c :: k, k', .ret, ρ, st, h => W_append k k' _ _ _ h
  | .block id :: k, k', x, ρ, st, h => W_append k k' _ _ _ h
/-- A piece of code told once, used before anything. -/
theorem W_cut {Q' : Post} {c : PC} (h : W T Q' [.code c] .normal ρ st) (hk : ∀ x ρ' st', Q' x ρ' st' → W T Q k x ρ' st') : W T Q (.code c :: k) .normal ρ st := by
  obtain ⟨x1, ρ1, st1, h1, h2⟩ := h
  exact ⟨_, _, _, h1, hk _ _ _ h2⟩

theorem W_ops (h : O T Q l kill k ρ st) : W T Q (.code (.ops l kill) :: k) .normal ρ st := by
  obtain ⟨ρ1, st1, h1, h2⟩ := h
  exact ⟨_, _, _, .ops _ _ _ _ _ _ h1, h2⟩
theorem W_drawn (h : D T Q l kill k ρ st) : W T Q (.code (.drawn l kill) :: k) .normal ρ st := by
  obtain ⟨ρ1, h1, h2⟩ := h
  exact ⟨_, _, _, .drawn _ _ _ _ _ h1, h2⟩
theorem O_nil (h : W T Q k .normal (dropA kill ρ) st) : O T Q [] kill k ρ st := ⟨_, _, .opsNil _ _, h⟩
theorem D_nil (h : W T Q k .normal (dropA kill ρ) st) : D T Q [] kill k ρ st := ⟨_, .drawnNil _ _, h⟩

theorem O_q {d : Option Nat} {op : PI} {p : PV} (hq : quiet st.get (Opd.ev ρ) op = some p) (h : O T Q l kill k (Env.put ρ d p) st) : O T Q (⟨d, none, op⟩ :: l) kill k ρ st := by
  obtain ⟨ρ1, st1, h1, h2⟩ := h
  exact ⟨_, _, .opsQuiet _ _ _ _ _ _ _ rfl hq h1, h2⟩
theorem O_l {d : Option Nat} {op : PI} {p : PV} {st' : St} (hq : loud st (Opd.ev ρ) op = some (p, st')) (h : O T Q l kill k (Env.put ρ d p) st') : O T Q (⟨d, none, op⟩ :: l) kill k ρ st := by
  obtain ⟨ρ1, st1, h1, h2⟩ := h
  exact ⟨_, _, .opsLoud _ _ _ _ _ _ _ _ rfl hq h1, h2⟩
/-- A guard: what it guards, or nothing. -/
theorem O_g {d : Option Nat} {op : PI} {t : Nat} {want b : Bool} (hg : getA t ρ = some (.bool b)) (h1 : b = want → O T Q (⟨d, none, op⟩ :: l) kill k ρ st) (h2 : b ≠ want → O T Q l kill k (Env.put ρ d (.tuple [])) st) : O T Q (⟨d, some (t, want), op⟩ :: l) kill k ρ st := by
  by_cases h : b = want
  · obtain ⟨ρ1, st1, h3, h4⟩ := h1 h
    refine ⟨ρ1, st1, ?_, h4⟩
    have hg' : gd (getA · ρ) (some (t, want)) = some true := by simp [gd, hg, h]
    cases h3 with
    | opsSkip _ _ _ _ _ _ g _ => cases g
    | opsQuiet _ _ _ _ p _ _ g q r => exact .opsQuiet _ _ _ _ _ _ _ hg' q r
    | opsLoud _ _ _ _ p st1 _ _ g q r => exact .opsLoud _ _ _ _ _ _ _ _ hg' q r
    | opsCall _ _ _ _ f xs g caps args rr _ _ gg ho hf hv hc hh => exact .opsCall _ _ _ _ _ _ _ _ _ _ _ _ hg' ho hf hv hc hh
    | opsCallS _ _ _ _ f xs g caps args rr _ _ gg ho hf hv hr hc hh => exact .opsCallS _ _ _ _ _ _ _ _ _ _ _ _ hg' ho hf hv hr hc hh
    | opsExt _ _ _ _ f xs g caps args rr _ _ gg ho hf hv hr hc hh => exact .opsExt _ _ _ _ _ _ _ _ _ _ _ _ hg' ho hf hv hr hc hh
    | opsRaw _ _ _ _ f xs g caps q τ rr st1 _ _ gg ho hf hp hb hc hh => exact .opsRaw _ _ _ _ _ _ _ _ _ _ _ _ _ _ hg' ho hf hp hb hc hh
  · obtain ⟨ρ1, st1, h3, h4⟩ := h2 h
    exact ⟨_, _, .opsSkip _ _ _ _ _ _ (by simp [gd, hg, h]) h3, h4⟩
theorem O_gT {d : Option Nat} {op : PI} {t : Nat} {want : Bool} (hg : getA t ρ = some (.bool want)) (h1 : O T Q (⟨d, none, op⟩ :: l) kill k ρ st) : O T Q (⟨d, some (t, want), op⟩ :: l) kill k ρ st := O_g hg (fun _ => h1) (fun h => (h rfl).elim)
theorem O_gF {d : Option Nat} {op : PI} {t : Nat} {want b : Bool} (hg : getA t ρ = some (.bool b)) (hb : b ≠ want) (h2 : O T Q l kill k (Env.put ρ d (.tuple [])) st) : O T Q (⟨d, some (t, want), op⟩ :: l) kill k ρ st := O_g hg (fun h => (hb h).elim) (fun _ => h2)
theorem O_gU {d : Option Nat} {op : PI} {t : Nat} {want : Bool} (hg : getA t ρ = some (.tuple [])) (h2 : O T Q l kill k (Env.put ρ d (.tuple [])) st) : O T Q (⟨d, some (t, want), op⟩ :: l) kill k ρ st := by
  obtain ⟨ρ1, st1, h3, h4⟩ := h2
  exact ⟨_, _, .opsSkip _ _ _ _ _ _ (by simp [gd, hg]) h3, h4⟩
theorem O_call {d : Option Nat} {f : Opd} {xs : List Opd} {g : Nat} {caps args : List PV} {r : PV} (hf : f.ev ρ = .func g caps) (hv : ViewL false st.get (xs.map (Opd.ev ρ) ++ caps) args) (hc : T.R (.call g args r)) (h : O T Q l kill k (Env.put ρ d r) st) : O T Q (⟨d, none, .call f xs⟩ :: l) kill k ρ st := by
  obtain ⟨ρ1, st1, h1, h2⟩ := h
  exact ⟨_, _, .opsCall _ _ _ _ _ _ _ _ _ _ _ _ rfl rfl hf hv hc h1, h2⟩
theorem O_callS {d : Option Nat} {f : Opd} {xs : List Opd} {g : Nat} {caps args : List PV} {r : PV} (hf : f.ev ρ = .func g caps) (hv : ViewL true st.get (xs.map (Opd.ev ρ) ++ caps) args) (hr : scalarR r = true) (hc : T.R (.call g args r)) (h : O T Q l kill k (Env.put ρ d r) st) : O T Q (⟨d, none, .call f xs⟩ :: l) kill k ρ st := by
  obtain ⟨ρ1, st1, h1, h2⟩ := h
  exact ⟨_, _, .opsCallS _ _ _ _ _ _ _ _ _ _ _ _ rfl rfl hf hv hr hc h1, h2⟩
theorem O_ext {d : Option Nat} {f : Opd} {xs : List Opd} {g : Nat} {caps args : List PV} {r : PV} (hf : f.ev ρ = .func g caps) (hv : ViewL true st.get (xs.map (Opd.ev ρ) ++ caps) args) (hr : scalarR r = true) (hc : T.ext g args r) (h : O T Q l kill k (Env.put ρ d r) st) : O T Q (⟨d, none, .call f xs⟩ :: l) kill k ρ st := by
  obtain ⟨ρ1, st1, h1, h2⟩ := h
  exact ⟨_, _, .opsExt _ _ _ _ _ _ _ _ _ _ _ _ rfl rfl hf hv hr hc h1, h2⟩
theorem O_raw {d : Option Nat} {f : Opd} {xs : List Opd} {g : Nat} {caps : List PV} {q τ : List (Nat × Tok)} {r : PV} {st1 : St} (hf : f.ev ρ = .func g caps) (hp : Parts st q τ) (hb : st1.base = st.next) (hc : T.R (.raw g (xs.map (Opd.ev ρ) ++ caps) (partSt st τ) r st1)) (h : O T Q l kill k (Env.put ρ d r) (joinSt st q st1)) : O T Q (⟨d, none, .call f xs⟩ :: l) kill k ρ st := by
  obtain ⟨ρ1, st2, h1, h2⟩ := h
  exact ⟨_, _, .opsRaw _ _ _ _ _ _ _ _ _ _ _ _ _ _ rfl rfl hf hp hb hc h1, h2⟩

theorem D_q {d : Option Nat} {op : PI} {p : PV} (hq : quiet st.get (Opd.ev ρ) op = some p) (h : D T Q l kill k (Env.put ρ d p) st) : D T Q (⟨d, none, op⟩ :: l) kill k ρ st := by
  obtain ⟨ρ1, h1, h2⟩ := h
  exact ⟨_, .drawnQuiet _ _ _ _ _ _ rfl hq h1, h2⟩
theorem D_g {d : Option Nat} {op : PI} {t : Nat} {want b : Bool} (hg : getA t ρ = some (.bool b)) (h1 : b = want → D T Q (⟨d, none, op⟩ :: l) kill k ρ st) (h2 : b ≠ want → D T Q l kill k (Env.put ρ d (.tuple [])) st) : D T Q (⟨d, some (t, want), op⟩ :: l) kill k ρ st := by
  by_cases h : b = want
  · obtain ⟨ρ1, h3, h4⟩ := h1 h
    refine ⟨ρ1, ?_, h4⟩
    have hg' : gd (getA · ρ) (some (t, want)) = some true := by simp [gd, hg, h]
    cases h3 with
    | drawnSkip _ _ _ _ _ g _ => cases g
    | drawnQuiet _ _ _ _ p _ g q r => exact .drawnQuiet _ _ _ _ _ _ hg' q r
    | drawnCall _ _ _ _ f xs g caps args rr _ gg ho hf hv hc hh => exact .drawnCall _ _ _ _ _ _ _ _ _ _ _ hg' ho hf hv hc hh
    | drawnCallS _ _ _ _ f xs g caps args rr _ gg ho hf hv hr hc hh => exact .drawnCallS _ _ _ _ _ _ _ _ _ _ _ hg' ho hf hv hr hc hh
  · obtain ⟨ρ1, h3, h4⟩ := h2 h
    exact ⟨_, .drawnSkip _ _ _ _ _ (by simp [gd, hg, h]) h3, h4⟩
theorem D_gU {d : Option Nat} {op : PI} {t : Nat} {want : Bool} (hg : getA t ρ = some (.tuple [])) (h2 : D T Q l kill k (Env.put ρ d (.tuple [])) st) : D T Q (⟨d, some (t, want), op⟩ :: l) kill k ρ st := by
  obtain ⟨ρ1, h3, h4⟩ := h2
  exact ⟨_, .drawnSkip _ _ _ _ _ (by simp [gd, hg]) h3, h4⟩
theorem D_call {d : Option Nat} {f : Opd} {xs : List Opd} {g : Nat} {caps args : List PV} {r : PV} (hf : f.ev ρ = .func g caps) (hv : ViewL false st.get (xs.map (Opd.ev ρ) ++ caps) args) (hc : T.R (.call g args r)) (h : D T Q l kill k (Env.put ρ d r) st) : D T Q (⟨d, none, .call f xs⟩ :: l) kill k ρ st := by
  obtain ⟨ρ1, h1, h2⟩ := h
  exact ⟨_, .drawnCall _ _ _ _ _ _ _ _ _ _ _ rfl rfl hf hv hc h1, h2⟩
theorem D_callS {d : Option Nat} {f : Opd} {xs : List Opd} {g : Nat} {caps args : List PV} {r : PV} (hf : f.ev ρ = .func g caps) (hv : ViewL true st.get (xs.map (Opd.ev ρ) ++ caps) args) (hr : scalarR r = true) (hc : T.R (.call g args r)) (h : D T Q l kill k (Env.put ρ d r) st) : D T Q (⟨d, none, .call f xs⟩ :: l) kill k ρ st := by
  obtain ⟨ρ1, h1, h2⟩ := h
  exact ⟨_, .drawnCallS _ _ _ _ _ _ _ _ _ _ _ rfl rfl hf hv hr hc h1, h2⟩
end

/-- A call, by what its body does. -/
def Ends (pf : PF) (Q : PV → Prop) : Post := fun x ρ st => (x = .normal ∨ x = .ret) ∧ ∃ r0 r, resOf ρ st.get pf.results = some r0 ∧ View true st.get r0 r ∧ Q r
theorem call_of {T : Tb} {f : Nat} {pf : PF} {args : List PV} {Q : PV → Prop} (hf : T.tbl f = some pf) (hn : args.length ≤ pf.ntmps) (h : W T (Ends pf Q) [.code pf.body] .normal (envFrom 0 args) emptySt) : ∃ r, T.R (.call f args r) ∧ Q r := by
  obtain ⟨x, ρ, st, h1, hx, r0, r, h2, h3, h4⟩ := h
  exact ⟨r, .call _ _ _ _ _ _ _ _ hf hn h1 hx h2 h3, h4⟩
theorem call_is {T : Tb} {f : Nat} {pf : PF} {args : List PV} {r : PV} (hf : T.tbl f = some pf) (hn : args.length ≤ pf.ntmps) (h : W T (Ends pf (· = r)) [.code pf.body] .normal (envFrom 0 args) emptySt) : T.R (.call f args r) := by
  obtain ⟨r', h1, rfl⟩ := call_of hf hn h
  exact h1
def EndsR (pf : PF) (r : PV) (st' : St) : Post := fun x ρ st => (x = .normal ∨ x = .ret) ∧ resOf ρ st.get pf.results = some r ∧ st = st'
theorem raw_is {T : Tb} {f : Nat} {pf : PF} {args : List PV} {r : PV} {st st' : St} (hf : T.tbl f = some pf) (hn : args.length ≤ pf.ntmps) (h : W T (EndsR pf r st') [.code pf.body] .normal (envFrom 0 args) st) : T.R (.raw f args st r st') := by
  obtain ⟨x, ρ, st1, h1, hx, h2, rfl⟩ := h
  exact .raw _ _ _ _ _ _ _ _ hf hn h1 hx h2

/-! ### Values that hold nothing of one's own -/
inductive Pl : PV → Prop
  | junk : Pl .junk
  | bool (b) : Pl (.bool b)
  | int (k n) : Pl (.int k n)
  | str (s) : Pl (.str s)
  | nilPtr : Pl .nilPtr
  | iptr (cs off) (h : ∀ c ∈ cs, Pl c) : Pl (.iptr cs off)
  | nilSl : Pl .nilSl
  | sl (xs full) (h : ∀ cs ∈ xs, ∀ c ∈ cs, Pl c) : Pl (.sl xs full)
  | func (f cs) (h : ∀ c ∈ cs, Pl c) : Pl (.func f cs)
  | nilFunc : Pl .nilFunc
  | iface (ty v) (h : Pl v) : Pl (.iface ty v)
  | nilIface : Pl .nilIface
  | agg (cs) (h : ∀ c ∈ cs, Pl c) : Pl (.agg cs)
  | tuple (cs) (h : ∀ c ∈ cs, Pl c) : Pl (.tuple cs)
theorem Pl.bel {m : Nat} {p : PV} (h : Pl p) : Bel m p := by
  induction h with
  | junk => exact .junk
  | bool b => exact .bool b
  | int k n => exact .int k n
  | str s => exact .str s
  | nilPtr => exact .nilPtr
  | iptr cs off _ ih => exact .iptr _ _ ih
  | nilSl => exact .nilSl
  | sl xs full _ ih => exact .sl _ _ ih
  | func f cs _ ih => exact .func _ _ ih
  | nilFunc => exact .nilFunc
  | iface ty v _ ih => exact .iface _ _ ih
  | nilIface => exact .nilIface
  | agg cs _ ih => exact .agg _ ih
  | tuple cs _ ih => exact .tuple _ ih
theorem getElem?_mem' {α : Type} {l : List α} {i : Nat} {x : α} (h : l[i]? = some x) : x ∈ l := List.mem_of_getElem? h
theorem Pl.view {live : Bool} {look : Nat → Option Tok} {p : PV} (h : Pl p) : View live look p p := by
  have key : ∀ {cs : List PV} {i : Nat} {c d : PV}, cs[i]? = some c → cs[i]? = some d → c = d := fun h1 h2 => by rw [h1] at h2; injection h2
  induction h with
  | junk => exact .junk _
  | bool b => exact .bool b
  | int k n => exact .int k n
  | str s => exact .str s
  | nilPtr => exact .nilPtr
  | iptr cs off _ ih => exact .iptr _ _ _ rfl fun i c d h1 h2 => by have := key h1 h2; subst this; exact ih c (List.mem_of_getElem? h1)
  | nilSl => exact .nilSl
  | sl xs full _ ih =>
    refine .sl _ _ _ rfl (fun j cs ds h1 h2 => ?_) (fun j cs ds i c d h1 h2 h3 h4 => ?_)
    · rw [h1] at h2; injection h2 with h2; rw [h2]
    · rw [h1] at h2; injection h2 with h2; subst h2
      have := key h3 h4; subst this
      exact ih cs (List.mem_of_getElem? h1) c (List.mem_of_getElem? h3)
  | func f cs _ ih => exact .func _ _ _ rfl fun i c d h1 h2 => by have := key h1 h2; subst this; exact ih c (List.mem_of_getElem? h1)
  | nilFunc => exact .nilFunc
  | iface ty v _ ih => exact .iface _ _ _ ih
  | nilIface => exact .nilIface
  | agg cs _ ih => exact .agg _ _ rfl fun i c d h1 h2 => by have := key h1 h2; subst this; exact ih c (List.mem_of_getElem? h1)
  | tuple cs _ ih => exact .tuple _ _ rfl fun i c d h1 h2 => by have := key h1 h2; subst this; exact ih c (List.mem_of_getElem? h1)

theorem viewL_nil {live : Bool} {look : Nat → Option Tok} : ViewL live look [] [] := ⟨rfl, fun i x y h => by simp at h⟩
theorem viewL_cons {live : Bool} {look : Nat → Option Tok} {x y : PV} {xs ys : List PV} (h : View live look x y) (k : ViewL live look xs ys) : ViewL live look (x :: xs) (y :: ys) :=
  ⟨by simp [k.1], fun i a b h1 h2 => by
    cases i with
    | zero => simp at h1 h2; subst h1 h2; exact h
    | succ i => exact k.2 i a b (by simpa using h1) (by simpa using h2)⟩
theorem viewL_pl {live : Bool} {look : Nat → Option Tok} {xs : List PV} (h : ∀ c ∈ xs, Pl c) : ViewL live look xs xs :=
  ⟨rfl, fun i a b h1 h2 => by
    rw [h1] at h2; injection h2 with h2; subst h2
    exact (h a (List.mem_of_getElem? h1)).view⟩
theorem view_tuple {live : Bool} {look : Nat → Option Tok} {xs ys : List PV} (h : ViewL live look xs ys) : View live look (.tuple xs) (.tuple ys) := .tuple _ _ h.1 h.2
/-- A row of plain values that is one's own. -/
theorem view_osl {live : Bool} {look : Nat → Option Tok} {t g off len sz : Nat} {full lv : Bool} {es : List (List PV)} (hg : look t = some (.row g sz es lv)) (hlv : live = true ∨ lv = false) (hb : off + len ≤ es.length) (hp : ∀ cs ∈ (es.drop off).take len, ∀ c ∈ cs, Pl c) : View live look (.osl t g off len full) (.sl ((es.drop off).take len) full) := by
  refine .osl t g off len full sz es lv _ hg hlv hb rfl (fun j cs ds h1 h2 => ?_) (fun j cs ds i c d h1 h2 h3 h4 => ?_)
  · rw [h1] at h2; injection h2 with h2; rw [h2]
  · rw [h1] at h2; injection h2 with h2; subst h2
    rw [h3] at h4; injection h4 with h4; subst h4
    exact (hp cs (List.mem_of_getElem? h1) c (List.mem_of_getElem? h3)).view
theorem view_osl0 {live : Bool} {look : Nat → Option Tok} {t g len sz : Nat} {full lv : Bool} {es : List (List PV)} (hg : look t = some (.row g sz es lv)) (hlv : live = true ∨ lv = false) (hb : len = es.length) (hp : ∀ cs ∈ es, ∀ c ∈ cs, Pl c) : View live look (.osl t g 0 len full) (.sl es full) := by
  subst hb
  have := view_osl (live := live) (full := full) hg hlv (off := 0) (len := es.length) (by simp) (by simpa using hp)
  simpa using this

theorem pl_bytes (s : List UInt8) : ∀ cs ∈ byteCells s, ∀ c ∈ cs, Pl c := by
  intro cs h c hc
  obtain ⟨b, _, rfl⟩ := List.mem_map.1 h
  simp at hc
  subst hc
  exact .int _ _
/-- Forget temporaries; states without what is one's own. -/
theorem weak_env {ρ ρ' : Env} (h : ∀ t p, getA t ρ' = some p → p = .junk ∨ (getA t ρ = some p ∧ Pl p)) : Weak ρ emptySt ρ' emptySt :=
  ⟨rfl, ⟨Nat.le_refl _, Nat.le_refl _⟩, fun t p hp => (h t p hp).imp id (fun h => ⟨h.1, h.2.bel⟩), fun t k h => by cases h⟩
theorem weak_nil (ρ : Env) : ∀ t p, getA t ([] : Env) = some p → p = .junk ∨ (getA t ρ = some p ∧ Pl p) := fun t p h => by cases h
theorem weak_cons {ρ ρ' : Env} {t0 : Nat} {p0 : PV} (h0 : getA t0 ρ = some p0) (hp : Pl p0) (h : ∀ t p, getA t ρ' = some p → p = .junk ∨ (getA t ρ = some p ∧ Pl p)) : ∀ t p, getA t ((t0, p0) :: ρ') = some p → p = .junk ∨ (getA t ρ = some p ∧ Pl p) := by
  intro t p ht
  simp only [getA] at ht
  split at ht
  · rename_i e; subst e; injection ht with ht; subst ht; exact .inr ⟨h0, hp⟩
  · exact h t p ht
end Go.AM
