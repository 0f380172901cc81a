/- keys: readers (open, key, name). · keys.Elem. -/
import Derived.Test.YtgdjnlopdpjnaaaDoorKeyJToKeyM
import Derived.Test.YtgdjnlopdpjnaaaDoorAmZ
set_option linter.unusedVariables false
set_option linter.unusedSimpArgs false
namespace Go.Proofs.YtgdjnlopdpjnaaaDoor
open Go Go.AM Go.RowKit
def Raw1 (T : Tb) (S : St) (f : Nat) (args : List PV) (r : PV) (S' : St) : Prop := S'.base = S.base ∧ T.R (.raw f args ⟨S.next, S.next, S.toks⟩ r ⟨S.next, S'.next, S'.toks⟩)
theorem Zbs {T : Tb} {S : St} {f : Nat} {args : List PV} {r : PV} {st1 : St} (h : T.R (.raw f args ⟨S.next, S.next, S.toks⟩ r st1)) (hb : st1.base = S.next) : Raw1 T S f args r ⟨S.base, st1.next, st1.toks⟩ := ⟨rfl, by
  obtain ⟨b, n, k⟩ := st1
  simp only at hb
  subst hb
  exact h⟩
section
variable {T : Tb} {Q : Z59} {k : List Fr} {ρ : EC} {st S' : St} {l : List POp} {kill : List Nat}
theorem Z13 {d : Option Nat} {f : Opd} {xs : List Opd} {g : Nat} {caps vals : List PV} {r : PV} (hc : Raw1 T st g (vals ++ caps) r S') (hf : f.get ρ = some (.func g caps)) (hx : Zdx ρ xs = some vals) (h : VO T Q l kill k (ρ.sets d r) S') : VO T Q (⟨d, none, .call f xs⟩ :: l) kill k ρ st := by
  refine Z0d hc.2 rfl hf hx ?_
  have : (⟨st.base, S'.next, S'.toks⟩ : St) = S' := by rw [← hc.1]
  rw [this]
  exact h
end
theorem Z97 {T : Tb} {Q : Z59} {C : Bx} {j : Nat} {k : List Fr} {l : List POp} {kill : List Nat} {ρ : EC} {b : Bool} {d : Option Nat} {f : Opd} {xs : List Opd} {g : Nat} {caps vals : List PV} {r : PV} {A B : St} (hx : Nat.beq j C.m = true) (hw : C.away ⟨d, none, .call f xs⟩ = true) (hf : f.get ρ = some (.func g caps)) (hxs : Zdx ρ xs = some vals) (hA : C.A = A) (hc : Raw1 T A g (vals ++ caps) r B) (hB : C.B = B) (h : VX T Q C (j + 1) l kill k (ρ.sets d r) true b) : VX T Q C j (⟨d, none, .call f xs⟩ :: l) kill k ρ false b :=
  X_rawAll hx hw hf hxs hA hc.2 rfl (by rw [hB, ← hc.1]) h
theorem Z98 {T : Tb} {Q : Z59} {C : Bx} {j : Nat} {k : List Fr} {kill : List Nat} {ρ : EC} {q : Bool} {st S1 : St} (hS1 : S1 = st.new (.var C.cs)) (hS : C.at q = st) (hN : st.next = C.N) (hD : ∀ t ∈ C.D, ρ.get t = some (.ptr C.N 0)) (h : V T Q k .normal (.drop kill ρ) S1) : VX T Q C j [] kill k ρ q true := by
  subst hS1
  exact X_nil hS hN hD h
theorem Z3i {T : Tb} {Q : Z59} {k : List Fr} {ρ : EC} {st : St} {x : EX} {l : List (Nat × PV)} (hv : V T Q k x (Za4 l) st) (h : Got ρ l) : V T Q k x ρ st := V_to l h hv
section
variable {T : Tb} {k : List Fr} {ρ : EC} {st : St}
theorem V_finRQN {pf : PF} {Q : PV → St → Prop} {r : PV} {x : EX} (ha : Zi 200 k x = ([], .normal)) (hr : resG ρ st.get pf.results = some r) (hq : Q r st) : V T (EndsRQ pf Q) k x ρ st := V_end ha fun e he => ⟨.inl rfl, r, resG_eq he hr, hq⟩
end
section
variable {T : Tb} {Q : Z59} {k : List Fr} {ρ : EC} {st S' : St} {l : List POp} {kill : List Nat}
theorem Z5n {d : Option Nat} {cs : List PV} (hS : S' = st.new (.var cs)) (h : VO T Q l kill k (ρ.sets d (.ptr st.next 0)) S') : VO T Q (⟨d, none, .alloc cs⟩ :: l) kill k ρ st := by
  subst hS
  exact Z9 rfl h
end
theorem skip1 {S : St} {t : Nat} {r : Rd} (hr : RdR S t r) {n : Nat} (hn : n ≤ 140737488355328) (ok : Bool) : ∃ S', Raw1 T S Z18 [.ptr t 0, .int .i64 n, .bool ok] (.bool (Z1s r n ok).2) S' ∧ RdR S' t (Z1s r n ok).1 ∧ Mut S S' t := by
  obtain ⟨st1, h1, h2, h3⟩ := run_skip (st := ⟨S.next, S.next, S.toks⟩) (hr.re _) hn (ok := ok)
  exact ⟨_, Zbs h1 h3.1, h2, h3.re⟩
theorem num1 {S : St} {t : Nat} {r : Rd} (hr : RdR S t r) {lo hi : Int} (h0 : 0 ≤ hi) (h1 : hi ≤ 281474976710656) : ∃ S', Raw1 T S Z3e [.ptr t 0, .int .i64 lo, .int .i64 hi] (.int .i64 (numR r lo hi).2) S' ∧ RdR S' t (numR r lo hi).1 ∧ Mut S S' t := by
  obtain ⟨st1, h1, h2, h3⟩ := run_num (st := ⟨S.next, S.next, S.toks⟩) (hr.re _) h0 h1
  exact ⟨_, Zbs h1 h3.1, h2, h3.re⟩
theorem done1 {S : St} {t : Nat} {r : Rd} (hr : RdR S t r) : ∃ S', Raw1 T S Z1x [.ptr t 0] (.bool (!r.2 && decide (r.1 = []))) S' ∧ RdR S' t r ∧ Mut S S' t := by
  obtain ⟨st1, h1, h2, h3⟩ := run_done (st := ⟨S.next, S.next, S.toks⟩) (hr.re _)
  exact ⟨_, Zbs h1 h2.1, hr.keep h2.2.1 h3, h2.re⟩
def idxB (c : UInt8) : List UInt8 → Nat → Int
  | [], _ => -1
  | d :: r, i => if c = d then i else idxB c r (i + 1)
theorem idxB_mem (c : UInt8) : ∀ (s : List UInt8) (i : Nat), decide (idxB c s i ≥ 0) = decide (c ∈ s)
  | [], i => by simp [idxB]
  | d :: r, i => by
    unfold idxB
    have := idxB_mem c r (i + 1)
    by_cases h : c = d
    · simp [h]
    · rw [if_neg h, this]
      simp [h]
theorem idxB_loop {p : PV} {s : List UInt8} (hp : BV p s) (hb : s.length ≤ 140737488355328) (c : UInt8) : ∀ (rest pre : List UInt8), s = pre ++ rest →
    V T (PE fun x e st' => st' = emptySt ∧ ((x = .exit 0 ∧ idxB c rest pre.length = -1) ∨ (x = .ret ∧ e = Za4 [(4, .int .i64 (idxB c rest pre.length))]))) [.code (.loop Z23)] .normal (Za4 [(0, p), (1, .int .u8 c.toNat), (7, .int .i64 s.length), (8, .int .i64 pre.length)]) emptySt := by
  intro rest
  induction rest with
  | nil =>
    intro pre hs
    have hlt : decide ((pre.length : Int) < s.length) = false := decide_eq_false (by subst hs; simp)
    refine Zn ?_
    repeat' first | ((with_reducible show V _ _ _ _ _ _); first | refine Z3v hlt rfl rfl ?_ | refine V_out [] rfl trivial ⟨rfl, .inl ⟨rfl, rfl⟩⟩ | refine Z3 rfl ?_) | refine Z0 rfl ?_ | refine Z4 ?_
  | cons d rest ih =>
    intro pre hs
    have hlt : decide ((pre.length : Int) < s.length) = true := decide_eq_true (by subst hs; simp; omega)
    have hat := hp.at (n := (pre.length : Int)) (b := d) (by omega) (by subst hs; simp)
    have hpl : pre.length < s.length := by subst hs; simp
    have hw : IntKind.i64.wrap ((pre.length : Int) + 1) = ((pre ++ [d]).length : Int) := by rw [Z06]; simp; omega
    have hi := ih (pre ++ [d]) (by rw [hs]; simp)
    refine Zn ?_
    rw [idxB]
    by_cases h : c = d
    · have hd := Z0o (p := (c.toNat : Int) = (d.toNat : Int)) (by rw [h])
      rw [if_pos h]
      repeat' first | ((with_reducible show V _ _ _ _ _ _); first | refine Z27 hlt rfl rfl ?_ | refine V_out [(4, .int .i64 pre.length)] rfl ⟨rfl, trivial⟩ ⟨rfl, .inr ⟨rfl, rfl⟩⟩ | refine Z3 rfl ?_ | refine Zb rfl rfl ?_) | ((with_reducible show VO _ _ _ _ _ _ _); first | refine Zh rfl rfl hat ?_ | refine Z6 hd rfl ?_ | refine Z0 rfl ?_ | refine Z4 ?_)
    · have hd := Z07 (p := (c.toNat : Int) = (d.toNat : Int)) (fun e => h (UInt8.toNat_inj.1 (by omega)))
      rw [if_neg h]
      have e1 : (pre ++ [d]).length = pre.length + 1 := by simp
      rw [e1] at hi hw
      repeat' first | ((with_reducible show V _ _ _ _ _ _); first | refine Z27 hlt rfl rfl ?_ | refine V_re rfl hi ⟨rfl, rfl, rfl, Z4b hw, trivial⟩ | refine Z3 rfl ?_ | refine Ze rfl rfl ?_) | ((with_reducible show VO _ _ _ _ _ _ _); first | refine Zh rfl rfl hat ?_ | refine Z6 hd rfl ?_ | refine Z0 rfl ?_ | refine Z4 ?_)
theorem run_IndexB {p : PV} {s : List UInt8} (hp : BV p s) (hb : s.length ≤ 140737488355328) (c : UInt8) : T.R (.call Z6a [p, .int .u8 c.toNat] (.int .i64 (idxB c s 0))) := by
  have hl := idxB_loop hp hb c s [] rfl
  have hpp := hp.pl
  refine Zo rfl rfl ?_
  repeat' first | refine Zcc rfl hl ⟨rfl, rfl, rfl, rfl, trivial⟩ ?_ | refine Z3 rfl ?_ | ((with_reducible show VO _ _ _ _ _ _ _); first | refine Z0a rfl hp ?_ | refine Z0 rfl ?_ | refine Z4 ?_)
  rintro x e' st' ⟨rfl, ⟨rfl, h⟩ | ⟨rfl, rfl⟩⟩
  · repeat' first | refine Z3 rfl ?_ | refine Zl rfl rfl ?_ | refine Z0 rfl ?_ | refine Z4 ?_
    exact congrArg _ (Eq.symm h)
  · repeat' first | refine Zl rfl rfl ?_
    rfl
theorem run_ContainsB {p : PV} {s : List UInt8} (hp : BV p s) (hb : s.length ≤ 140737488355328) (c : UInt8) : T.R (.call Z4y [p, .int .u8 c.toNat] (.bool (decide (c ∈ s)))) := by
  have hi := run_IndexB hp hb c
  have hpp := hp.pl
  refine Zo rfl rfl ?_
  repeat' first | refine Z3 rfl ?_ | refine Zl rfl rfl ?_ | ((with_reducible show VO _ _ _ _ _ _ _); first | refine Z8 rfl rfl hi ?_ | refine Z0 rfl ?_ | refine Z4 ?_)
  exact congrArg _ (idxB_mem c s 0)
def Zep (k kinds : List UInt8) : Rd := match k with
  | [] => ([], true)
  | c :: b => if c ∈ kinds then (b, false) else ([], true)
theorem build_rd {p : PV} {s : List UInt8} (hp : BV p s) : ∀ (look : Nat → Option Tok) (e : EC) (i : Nat), e.get i = some p → Zg look e (.build [.nilSl, .bool false] [(0, (1, .t i))]) = some (.agg [p, .bool false]) := fun look e i hi => by
  cases hp <;> (simp only [Zg, Z3b, Zbj, Opd.get, hi]; rfl)
theorem open1 {S : St} {pk pv : PV} {k v kinds : List UInt8} (hk : BV pk k) (hv : BV pv v) (hkl : k.length ≤ 1073741824) (hks : kinds.length ≤ 1000) : ∃ t S', Raw1 T S Zev [.agg [pk, pv], .sl (Z1 kinds) true] (.ptr t 0) S' ∧ S.next ≤ t ∧ RdR S' t (Zep k kinds) ∧ S.next ≤ S'.next ∧ ∀ u, u < S.next → S'.get u = S.get u := by
  have hpk := hk.pl
  have hpv := hv.pl
  have hone1 := Zbm hk
  have hone2 := Zbm hv
  have hbk : BV (.sl (Z1 kinds) true) kinds := .sl _ _
  have hpb := hbk.pl
  let st : St := ⟨S.next, S.next, S.toks⟩
  have hg : (st.new (.var [pk, pv])).get st.next = some (.var [pk, pv]) := St.get_new
  have key : ∃ r st', T.R (.raw Zev [.agg [pk, pv], .sl (Z1 kinds) true] st r st') ∧ ∃ t, r = .ptr t 0 ∧ st'.base = S.next ∧ S.next ≤ t ∧ RdR st' t (Zep k kinds) ∧ S.next ≤ st'.next ∧ ∀ u, u < S.next → st'.get u = S.get u := by
    refine Z1c rfl rfl ?_
    have hend : ∀ (b : List UInt8) (q : PV) (bad : Bool), BV q b → b.length ≤ 1073741824 → ∃ t, PV.ptr (st.new (.var [pk, pv])).next 0 = .ptr t 0 ∧ ((st.new (.var [pk, pv])).new (.var [q, .bool bad])).base = S.next ∧ S.next ≤ t ∧ RdR ((st.new (.var [pk, pv])).new (.var [q, .bool bad])) t (b, bad) ∧ S.next ≤ ((st.new (.var [pk, pv])).new (.var [q, .bool bad])).next ∧ ∀ u, u < S.next → ((st.new (.var [pk, pv])).new (.var [q, .bool bad])).get u = S.get u := fun b q bad hq hbl =>
      ⟨_, rfl, rfl, by show S.next ≤ S.next + 1; omega, ⟨Nat.lt_succ_self _, hbl, q, St.get_new, hq⟩, by show S.next ≤ S.next + 1 + 1; omega, fun u hu => by rw [St.get_new_old (by show u < S.next + 1; omega), St.get_new_old (by show u < S.next; omega)]; rfl⟩
    cases k with
    | nil =>
      have hc := Z0o (p := (([] : List UInt8).length : Int) = 0) rfl
      repeat' first | ((with_reducible show V _ _ _ _ _ _); first | refine Z05 rfl rfl (hend [] .nilSl true .nil (by simp)) | refine Z3 rfl ?_ | refine Zb rfl rfl ?_) | ((with_reducible show VO _ _ _ _ _ _ _); first | refine Zf rfl hg rfl ?_ | refine Z0a rfl hk ?_ | refine Z6 hc rfl ?_ | refine Z0 rfl ?_ | refine Z9 rfl ?_ | refine Z4 ?_ | refine Z19 rfl rfl ?_)
    | cons c b =>
      have hc := Z07 (p := ((c :: b).length : Int) = 0) (by simp; omega)
      have hat := hk.at (n := 0) (b := c) (by omega) rfl
      have hct := run_ContainsB hbk (by omega) c
      by_cases hm : c ∈ kinds
      · have h2 : Zep (c :: b) kinds = (b, false) := by simp [Zep, hm]
        have hm2 : decide (c ∈ kinds) = true := by simp [hm]
        rw [hm2] at hct
        obtain ⟨q, s1, s2⟩ := hk.lo (st.new (.var [pk, pv])).get (k := .i64) (m := 1) (by omega) (by simp; omega)
        have s3 : BV q b := s2
        have hb := build_rd s3
        rw [h2]
        repeat' first | ((with_reducible show V _ _ _ _ _ _); first | refine Z05 rfl rfl (hend b q false s3 (by simp at hkl; omega)) | refine Z3 rfl ?_ | refine Ze rfl rfl ?_) | ((with_reducible show VO _ _ _ _ _ _ _); first | refine Zf rfl hg rfl ?_ | refine Z0a rfl hk ?_ | refine Z6 hc rfl ?_ | refine Zh rfl rfl hat ?_ | refine Z8 rfl rfl hct ?_ | refine Z2c q rfl rfl rfl rfl s1 ?_ | refine Z0 (hb _ _ _ rfl) ?_ | refine Z0 rfl ?_ | refine Z9 rfl ?_ | refine Z4 ?_ | refine Zq rfl ?_)
      · have h2 : Zep (c :: b) kinds = ([], true) := by simp [Zep, hm]
        have hm2 : decide (c ∈ kinds) = false := by simp [hm]
        rw [hm2] at hct
        rw [h2]
        repeat' first | ((with_reducible show V _ _ _ _ _ _); first | refine Z05 rfl rfl (hend [] .nilSl true .nil (by simp)) | refine Z3 rfl ?_ | refine Zb rfl rfl ?_) | ((with_reducible show VO _ _ _ _ _ _ _); first | refine Zf rfl hg rfl ?_ | refine Z0a rfl hk ?_ | refine Z6 hc rfl ?_ | refine Zh rfl rfl hat ?_ | refine Z8 rfl rfl hct ?_ | refine Z0 rfl ?_ | refine Z9 rfl ?_ | refine Z4 ?_ | refine Zq rfl ?_)
  obtain ⟨r, st', h1, t, rfl, h2, h3, h4, h5, h6⟩ := key
  exact ⟨t, _, Zbs h1 h2, h3, h4, h5, h6⟩
def zeroV : Val := .mk 0 0 [] []
def Z11 (r : Rd) (kind : Int) : Rd × Val := match Z64 r.1 with
  | .ok v n => if r.2 = false ∧ v.kind = kind then ((r.1.drop n, false), v) else ((r.1, true), zeroV)
  | .err _ => ((r.1, true), zeroV)
def cellsOf (v : Val) : List PV := [.int .i64 v.kind, .int .i64 v.n, .str v.s, .nilSl]
theorem resG_cell {e : EC} {look : Nat → Option Tok} {t a n : Nat} {cs : List PV} (ha : e.get a = some (.ptr t 0)) (hg : look t = some (.var cs)) (hl : cs.length = n) : resG e look [.cell a n true] = some (.agg cs) := by
  have hld : loadAt look n true (.ptr t 0) = some (.agg cs) := by
    simp only [loadAt, behind, hg, Option.bind_some]
    rw [← hl]
    simp [slice?]
  simp [resG, resGs, resG1, ha, hld]
theorem rdKey_vc {r : Rd} (hb : r.1.length ≤ 1073741824) (kind : Int) : VC (Z11 r kind).2 (cellsOf (Z11 r kind).2) ∧ (Z11 r kind).2.l = [] ∧ (Z11 r kind).1.1.length ≤ r.1.length := by
  have hz : VC zeroV (cellsOf zeroV) ∧ zeroV.l = [] := ⟨.nil _ _ _ (by simp [I64]) (by simp [I64]) (by simp), rfl⟩
  unfold Z11
  split
  · rename_i v n hv
    obtain ⟨h1, h2, k, m, s, rfl, h3, h4, h5⟩ := take_ok hv hb
    split
    · exact ⟨.nil _ _ _ h3 h4 (by omega), rfl, by simp⟩
    · exact ⟨hz.1, hz.2, Nat.le_refl _⟩
  · exact ⟨hz.1, hz.2, Nat.le_refl _⟩
set_option maxHeartbeats 2000000 in
theorem key1 {S : St} {t : Nat} {r : Rd} (hr : RdR S t r) {kind : Int} : ∃ S', Raw1 T S Z6c [.ptr t 0, .int .i64 kind] (.agg (cellsOf (Z11 r kind).2)) S' ∧ RdR S' t (Z11 r kind).1 ∧ Mut S S' t := by
  obtain ⟨b, bad⟩ := r
  have hr0 := hr
  obtain ⟨hlt, hbl, p, hg, hp⟩ := hr
  simp only at hbl hg hp
  have hpp := hp.pl
  have htk := run_Take hp hbl
  obtain ⟨st, hst⟩ : ∃ st : St, st = ⟨S.next, S.next, S.toks⟩ := ⟨_, rfl⟩
  have hsn : st.next = S.next := by rw [hst]
  have hsg : ∀ u, st.get u = S.get u := fun u => by rw [hst]; rfl
  have hsb : st.base = S.next := by rw [hst]
  let z4 : List PV := [.int .i64 0, .int .i64 0, .str [], .nilSl]
  have key : ∃ v st', T.R (.raw Z6c [.ptr t 0, .int .i64 kind] st v st') ∧ v = .agg (cellsOf (Z11 (b, bad) kind).2) ∧ st'.base = S.next ∧ RdR st' t (Z11 (b, bad) kind).1 ∧ Mut S ⟨S.base, st'.next, st'.toks⟩ t := by
    have stage : ∀ (v : Val) (n : Nat) (ok : Bool), n ≤ 140737488355328 → ∃ A B : St, storeAt ((st.new (.var z4)).new (.var z4)) (.ptr (st.next + 1) 0) (.agg (cellsOf v)) = some A ∧ A.get t = some (.var [p, .bool bad]) ∧ A.get (st.next + 1) = some (.var (cellsOf v)) ∧ Raw1 T A Z18 [.ptr t 0, .int .i64 n, .bool ok] (.bool (Z1s (b, bad) n ok).2) B ∧ B.get (st.next + 1) = some (.var (cellsOf v)) ∧
        (∀ ds : List PV, ds.length = 4 → ∃ D, storeAt B (.ptr st.next 0) (.agg ds) = some D ∧ D.get st.next = some (.var ds) ∧ D.base = S.next ∧ RdR D t (Z1s (b, bad) n ok).1 ∧ Mut S ⟨S.base, D.next, D.toks⟩ t) := fun v n ok hn => by
      let A0 : St := (st.new (.var z4)).new (.var z4)
      have hA0n : A0.next = S.next + 2 := by show st.next + 1 + 1 = _; omega
      have hA0g : ∀ u, u < S.next → A0.get u = S.get u := fun u hu => (St.get_new_old (by show u < st.next + 1; omega)).trans ((St.get_new_old (by omega)).trans (hsg u))
      have hA01 : A0.get (st.next + 1) = some (.var z4) := St.get_new
      have hA00 : A0.get st.next = some (.var z4) := (St.get_new_old (by show st.next < st.next + 1; omega)).trans St.get_new
      have hs : storeAt A0 (.ptr (st.next + 1) 0) (.agg (cellsOf v)) = some (A0.put (st.next + 1) (.var (cellsOf v))) := Z03 hA01 rfl
      have hAg : ∀ u, u ≠ st.next + 1 → (A0.put (st.next + 1) (.var (cellsOf v))).get u = A0.get u := fun u hu => St.get_put_old (Ne.symm hu)
      have hAt : (A0.put (st.next + 1) (.var (cellsOf v))).get t = some (.var [p, .bool bad]) := (hAg t (by omega)).trans ((hA0g t hlt).trans hg)
      have hAr : RdR (A0.put (st.next + 1) (.var (cellsOf v))) t (b, bad) := ⟨by show t < A0.next; omega, hbl, p, hAt, hp⟩
      obtain ⟨B, k1, k2, k3⟩ := skip1 hAr hn ok
      have hB0 : B.get st.next = some (.var z4) := (k3.2.2 _ (by show st.next < A0.next; omega) (by omega)).trans ((hAg _ (by omega)).trans hA00)
      have hB1 : B.get (st.next + 1) = some (.var (cellsOf v)) := (k3.2.2 _ (by show st.next + 1 < A0.next; omega) (by omega)).trans St.get_put
      refine ⟨_, B, hs, hAt, St.get_put, k1, hB1, fun ds hds => ⟨B.put st.next (.var ds), Z03 hB0 (by rw [hds]; rfl), St.get_put, ?_, ?_, ?_⟩⟩
      · show B.base = S.next
        rw [k3.1]
        exact hsb
      · exact k2.keep (Nat.le_refl _) (St.get_put_old (by omega))
      · refine ⟨rfl, ?_, fun u hu hn => ?_⟩
        · show S.next ≤ B.next
          have : A0.next ≤ B.next := k3.2.1
          omega
        · show (B.put st.next (.var ds)).get u = S.get u
          rw [St.get_put_old (by omega), k3.2.2 u (by show u < A0.next; omega) hn, hAg u (by omega), hA0g u hu]
    have hg' : ((st.new (.var z4))).get t = some (.var [p, .bool bad]) := (St.get_new_old (by omega)).trans ((hsg t).trans hg)
    refine Z1c rfl rfl ?_
    cases hd : Z64 b with
    | err e =>
      rw [hd] at htk
      have he0 : e ≠ 0 := fun h => take_err0 b (by rw [hd, h])
      have hc := Z07 (p := e = 0) he0
      have hk : Z11 (b, bad) kind = ((b, true), zeroV) := by simp [Z11, hd]
      have hsk : Z1s (b, bad) 0 false = ((b, true), false) := by simp [Z1s]
      obtain ⟨A, B, k1, k2, k3, k4, k5, k6⟩ := stage zeroV 0 false (by omega)
      rw [hsk] at k4 k6
      obtain ⟨D, d1, d2, d3, d4, d5⟩ := k6 (cellsOf zeroV) rfl
      rw [hk]
      repeat' first | ((with_reducible show V _ _ _ _ _ _); first | refine Z05 rfl (resG_cell rfl d2 rfl) ⟨rfl, d3, d4, d5⟩ | refine Z3 rfl ?_ | refine Zb rfl rfl ?_) | ((with_reducible show VO _ _ _ _ _ _ _); first | refine Zf rfl hg' rfl ?_ | refine Z8 rfl rfl htk ?_ | refine Zp rfl rfl rfl rfl rfl k1 ?_ | refine Zp rfl rfl rfl rfl rfl d1 ?_ | refine Z6 hc rfl ?_ | refine Z13 k4 rfl rfl ?_ | refine Z0 rfl ?_ | refine Z9 rfl ?_ | refine Z4 ?_ | refine Z19 rfl rfl ?_)
    | ok v n =>
      obtain ⟨hn1, hn2, k, m, s, rfl, hk64, hm64, hsl⟩ := take_ok hd hbl
      rw [hd] at htk
      by_cases hkk : k = kind
      · have hc := Z0o (p := k = kind) hkk
        obtain ⟨A, B, k1, k2, k3, k4, k5, k6⟩ := stage (.mk k m s []) n true (by omega)
        cases bad with
        | true =>
          have hk : Z11 (b, true) kind = ((b, true), zeroV) := by simp [Z11, hd]
          have hsk : Z1s (b, true) n true = ((b, true), false) := by simp [Z1s]
          rw [hsk] at k4 k6
          obtain ⟨D, d1, d2, d3, d4, d5⟩ := k6 (cellsOf zeroV) rfl
          rw [hk]
          repeat' first | ((with_reducible show V _ _ _ _ _ _); first | refine Z05 rfl (resG_cell rfl d2 rfl) ⟨rfl, d3, d4, d5⟩ | refine Z3 rfl ?_ | refine Zb rfl rfl ?_) | ((with_reducible show VO _ _ _ _ _ _ _); first | refine Zf rfl hg' rfl ?_ | refine Zf rfl k3 rfl ?_ | refine Z8 rfl rfl htk ?_ | refine Zp rfl rfl rfl rfl rfl k1 ?_ | refine Zp rfl rfl rfl rfl rfl d1 ?_ | refine Z6 hc rfl ?_ | refine Z13 k4 rfl rfl ?_ | refine Z0 rfl ?_ | refine Z9 rfl ?_ | refine Z4 ?_ | refine Zq rfl ?_)
        | false =>
          have hk : Z11 (b, false) kind = ((b.drop n, false), .mk k m s []) := by simp [Z11, hd, hkk, Val.kind]
          have hsk : Z1s (b, false) n true = ((b.drop n, false), true) := by
            unfold Z1s
            rw [if_neg (by simp only [Bool.false_eq_true, false_or, reduceCtorEq]; omega)]
          rw [hsk] at k4 k6
          obtain ⟨D, d1, d2, d3, d4, d5⟩ := k6 (cellsOf (.mk k m s [])) rfl
          rw [hk]
          repeat' first | ((with_reducible show V _ _ _ _ _ _); first | refine Z05 rfl (resG_cell rfl d2 rfl) ⟨rfl, d3, d4, d5⟩ | refine Z3 rfl ?_ | refine Ze rfl rfl ?_) | ((with_reducible show VO _ _ _ _ _ _ _); first | refine Zf rfl hg' rfl ?_ | refine Zf rfl k3 rfl ?_ | refine Z2m rfl k5 rfl ?_ | refine Z8 rfl rfl htk ?_ | refine Zp rfl rfl rfl rfl rfl k1 ?_ | refine Zp rfl rfl rfl rfl rfl d1 ?_ | refine Z6 hc rfl ?_ | refine Z13 k4 rfl rfl ?_ | refine Z0 rfl ?_ | refine Z9 rfl ?_ | refine Z4 ?_ | refine Zq rfl ?_)
      · have hc := Z07 (p := k = kind) hkk
        obtain ⟨A, B, k1, k2, k3, k4, k5, k6⟩ := stage (.mk k m s []) n false (by omega)
        have hk : Z11 (b, bad) kind = ((b, true), zeroV) := by simp [Z11, hd, hkk, Val.kind]
        have hsk : Z1s (b, bad) n false = ((b, true), false) := by simp [Z1s]
        rw [hsk] at k4 k6
        obtain ⟨D, d1, d2, d3, d4, d5⟩ := k6 (cellsOf zeroV) rfl
        rw [hk]
        repeat' first | ((with_reducible show V _ _ _ _ _ _); first | refine Z05 rfl (resG_cell rfl d2 rfl) ⟨rfl, d3, d4, d5⟩ | refine Z3 rfl ?_ | refine Zb rfl rfl ?_) | ((with_reducible show VO _ _ _ _ _ _ _); first | refine Zf rfl hg' rfl ?_ | refine Zf rfl k3 rfl ?_ | refine Z8 rfl rfl htk ?_ | refine Zp rfl rfl rfl rfl rfl k1 ?_ | refine Zp rfl rfl rfl rfl rfl d1 ?_ | refine Z6 hc rfl ?_ | refine Z13 k4 rfl rfl ?_ | refine Z0 rfl ?_ | refine Z9 rfl ?_ | refine Z4 ?_ | refine Zq rfl ?_)
  obtain ⟨v, st', h1, rfl, h2, h3, h4⟩ := key
  subst hst
  exact ⟨_, Zbs h1 h2, h3, h4⟩
def Z44 (r : Rd) : Rd := if (Z11 r 2).1.2 = true then (Z11 r 2).1 else ((Z11 r 2).1.1, !nameB (Z11 r 2).2.s)
theorem name1 {S : St} {t : Nat} {r : Rd} (hr : RdR S t r) : ∃ S', Raw1 T S Z5j [.ptr t 0] (.tuple []) S' ∧ RdR S' t (Z44 r) ∧ Mut S S' t := by
  obtain ⟨B, k1, k2, k3⟩ := key1 (S := ⟨S.next, S.next, S.toks⟩) (hr.re _) (kind := 2)
  obtain ⟨hvc, hvl, hle⟩ := rdKey_vc hr.2.1 2
  have hsl : (Z11 r 2).2.s.length ≤ 140737488355328 := by
    generalize (Z11 r 2).2 = v at hvc hvl
    obtain ⟨k, n, s, l⟩ := v
    cases hvc with
    | nil _ _ _ h1 h2 h3 => exact h3
  obtain ⟨hlt, hbl, p, hg, hp⟩ := k2
  have hnm := run_Name hsl
  have key : ∃ v st', T.R (.raw Z5j [.ptr t 0] ⟨S.next, S.next, S.toks⟩ v st') ∧ v = .tuple [] ∧ st'.base = S.next ∧ RdR st' t (Z44 r) ∧ Mut S ⟨S.base, st'.next, st'.toks⟩ t := by
    generalize hk : Z11 r 2 = kr at *
    obtain ⟨⟨b, bad⟩, v⟩ := kr
    refine Z1c rfl rfl ?_
    cases bad with
    | true =>
      have hn : Z44 r = (b, true) := by simp [Z44, hk]
      rw [hn]
      repeat' first | ((with_reducible show V _ _ _ _ _ _); first | refine V_finRQN rfl rfl ⟨rfl, k3.1, ⟨hlt, hbl, p, hg, hp⟩, rfl, k3.2.1, k3.2.2⟩ | refine Z3 rfl ?_ | refine Ze rfl rfl ?_) | ((with_reducible show VO _ _ _ _ _ _ _); first | refine Zf rfl hg rfl ?_ | refine Z13 k1 rfl rfl ?_ | refine Z0 rfl ?_ | refine Z4 ?_)
    | false =>
      have hn : Z44 r = (b, !nameB v.s) := by simp [Z44, hk]
      have hst := Z9d (c := .bool (!nameB v.s)) hg rfl
      have hend : RdR (B.put t (.var [p, .bool (!nameB v.s)])) t (b, !nameB v.s) ∧ Mut S ⟨S.base, (B.put t (.var [p, .bool (!nameB v.s)])).next, (B.put t (.var [p, .bool (!nameB v.s)])).toks⟩ t :=
        ⟨⟨hlt, hbl, p, St.get_put, hp⟩, rfl, k3.2.1, fun u hu hn => (St.get_put_old (Ne.symm hn)).trans (k3.2.2 u hu hn)⟩
      rw [hn]
      repeat' first | ((with_reducible show V _ _ _ _ _ _); first | refine V_finRQN rfl rfl ⟨rfl, k3.1, hend⟩ | refine Z3 rfl ?_ | refine Zb rfl rfl ?_) | ((with_reducible show VO _ _ _ _ _ _ _); first | refine Zf rfl hg rfl ?_ | refine Z13 k1 rfl rfl ?_ | refine Z8 rfl rfl hnm ?_ | refine Zp rfl rfl rfl rfl rfl hst ?_ | refine Z0 rfl ?_ | refine Z4 ?_)
  obtain ⟨v, st', h1, rfl, h2, h3, h4⟩ := key
  exact ⟨_, Zbs h1 h2, h3, h4⟩
def rdSign (r : Rd) : Rd := match r.1 with
  | [] => ([], true)
  | n :: _ => (Z1s r (1 + n.toNat) (decide (n.toNat ≤ 40))).1
def elemA (b v : List UInt8) : Rd × Rd × Val × Int :=
  let r := (Z11 (Z44 (Z11 (b, false) 6).1) 7)
  let x := numR (v, false) 1 281474976710656
  (r.1, x.1, r.2, x.2)
def elemB (c : UInt8) (b v : List UInt8) : Rd × Rd × Val × Int := match b with
  | [] => (([], true), (v, false), zeroV, 0)
  | d :: _ =>
    let r2 := Z44 (Z1s (b, false) 1 (decide (d.toNat = 6) || decide (d.toNat = 7))).1
    let r3 := if c = 6 ∧ r2.2 = false then rdSign r2 else r2
    let r := Z11 r3 d.toNat
    (r.1, (v, false), r.2, 0)
def elemR (k v : List UInt8) : Option (Val × Int) := match k with
  | [] => none
  | c :: b => if c ∈ [3, 4, 5, 6] ∧ b ≠ [] then
      let t := if c = 3 ∨ c = 4 then elemA b v else elemB c b v
      if t.1 = ([], false) ∧ t.2.1 = ([], false) then some t.2.2 else none
    else none
def Zfk : Option (Val × Int) → PV
  | none => .tuple [.agg (cellsOf zeroV), .int .i64 0, .int .i64 110]
  | some (v, o) => .tuple [.agg (cellsOf v), .int .i64 o, .int .i64 0]
def pcAt : List Nat → PC → PC
  | 0 :: p, .seq a _ => pcAt p a
  | 1 :: p, .seq _ b => pcAt p b
  | 2 :: p, .block _ c => pcAt p c
  | 3 :: p, .cond _ a _ => pcAt p a
  | 4 :: p, .cond _ _ b => pcAt p b
  | 5 :: p, .loop c => pcAt p c
  | _, c => c
def elC (p : List Nat) : PC := pcAt p pf_keys_Elem.body
theorem done2 {S : St} {t : Nat} {r : Rd} (hr : RdR S t r) : ∃ S', Raw1 T S Z1x [.ptr t 0] (.bool (decide (r = ([], false)))) S' ∧ RdR S' t r ∧ Mut S S' t := by
  have h := done1 hr
  have e : (!r.2 && decide (r.1 = [])) = decide (r = ([], false)) := by
    obtain ⟨b, bad⟩ := r
    cases bad <;> simp
  rwa [e] at h
def z4 : List PV := [.int .i64 0, .int .i64 0, .str [], .nilSl]
theorem Zh9 (v : Val) : ∀ c ∈ cellsOf v, Pl c := by
  intro c hc
  simp only [cellsOf, List.mem_cons, List.not_mem_nil, or_false] at hc
  rcases hc with rfl | rfl | rfl | rfl
  · exact .int _ _
  · exact .int _ _
  · exact .str _
  · exact .nilSl
theorem Z7z (o : Option (Val × Int)) : Pl (Zfk o) := by
  cases o with
  | none => exact .tuple _ (Z0k (.agg _ (Zh9 _)) (Z0k (.int _ _) (Z0k (.int _ _) Z45)))
  | some p => exact .tuple _ (Z0k (.agg _ (Zh9 _)) (Z0k (.int _ _) (Z0k (.int _ _) Z45)))
theorem Mut.get {S S' : St} {t u : Nat} {k : Tok} (m : Mut S S' t) (hu : u < S.next) (hn : u ≠ t) (h : S.get u = some k) : S'.get u = some k := (m.2.2 u hu hn).trans h
set_option maxHeartbeats 2000000 in
theorem el_tail {res : Rd × Rd × Val × Int} {S : St} {t x a : Nat} (h1 : RdR S t res.1) (h2 : RdR S x res.2.1) (htx : t ≠ x) (ht : 1 < t ∧ 1 < x ∧ 1 < a ∧ a < S.next) (hta : a ≠ t ∧ a ≠ x) (ga : S.get a = some (.var (cellsOf res.2.2.1))) (g1 : S.get 1 = some (.var z4)) :
    ∀ (fr : List Fr) (y : EX), Zi 200 fr y = Zi 200 [.code (elC [1, 1, 1, 1, 1, 1])] .normal → V T (Go.AM.Ends pf_keys_Elem (· = Zfk (if res.1 = ([], false) ∧ res.2.1 = ([], false) then some res.2.2 else none))) fr y (Za4 [(2, .ptr 1 0), (5, .ptr t 0), (6, .ptr x 0), (7, .ptr a 0), (8, .int .i64 res.2.2.2)]) S := by
  intro fr y hadv
  obtain ⟨r, xr, v, o⟩ := res
  simp only at h1 h2 ga ⊢
  obtain ⟨hta1, hta2⟩ := hta
  obtain ⟨ht1, ht2, ht3, ht4⟩ := ht
  obtain ⟨B, b1, b2, b3⟩ := done2 h1
  have gB1 : B.get 1 = some (.var z4) := b3.get (by have := h1.1; omega) (by omega) g1
  have gBa : B.get a = some (.var (cellsOf v)) := b3.get ht4 hta1 ga
  have bx := h2.apart b3 (Ne.symm htx)
  have stz : storeAt B (.ptr 1 0) (.agg (cellsOf zeroV)) = some (B.put 1 (.var (cellsOf zeroV))) := Z03 gB1 rfl
  have gz : (B.put 1 (.var (cellsOf zeroV))).get 1 = some (.var (cellsOf zeroV)) := St.get_put
  refine Z38 (hadv.trans rfl) ?_
  by_cases hr : r = ([], false)
  · have d1 : decide (r = ([], false)) = true := by simp [hr]
    rw [d1] at b1
    obtain ⟨C, c1, c2, c3⟩ := done2 bx
    have gC1 : C.get 1 = some (.var z4) := c3.get (by have := b2.1; omega) (by omega) gB1
    have gCa : C.get a = some (.var (cellsOf v)) := c3.get (by have := b3.2.1; omega) hta2 gBa
    by_cases hx : xr = ([], false)
    · have d2 : decide (xr = ([], false)) = true := by simp [hx]
      rw [d2] at c1
      rw [if_pos ⟨hr, hx⟩]
      have stv : storeAt C (.ptr 1 0) (.agg (cellsOf v)) = some (C.put 1 (.var (cellsOf v))) := Z03 gC1 rfl
      have gv : (C.put 1 (.var (cellsOf v))).get 1 = some (.var (cellsOf v)) := St.get_put
      repeat' first | ((with_reducible show V _ _ _ _ _ _); first | refine Z5z rfl (Zef rfl gv rfl rfl rfl) (Z7z (some (v, o))).view ?_ | refine Z3 rfl ?_ | refine Ze rfl rfl ?_) | ((with_reducible show VO _ _ _ _ _ _ _); first | refine Z13 b1 rfl rfl ?_ | refine Z13 c1 rfl rfl ?_ | refine Z2m rfl gCa rfl ?_ | refine Zp rfl rfl rfl rfl rfl stv ?_ | refine Z0 rfl ?_ | refine Z4 ?_ | refine Zq rfl ?_)
      rfl
    · have d2 : decide (xr = ([], false)) = false := by simp [hx]
      rw [d2] at c1
      rw [if_neg (fun h => hx h.2)]
      have stz' : storeAt C (.ptr 1 0) (.agg (cellsOf zeroV)) = some (C.put 1 (.var (cellsOf zeroV))) := Z03 gC1 rfl
      have gz' : (C.put 1 (.var (cellsOf zeroV))).get 1 = some (.var (cellsOf zeroV)) := St.get_put
      repeat' first | ((with_reducible show V _ _ _ _ _ _); first | refine Z5z rfl (Zef rfl gz' rfl rfl rfl) (Z7z none).view ?_ | refine Z3 rfl ?_ | refine Zb rfl rfl ?_) | ((with_reducible show VO _ _ _ _ _ _ _); first | refine Z13 b1 rfl rfl ?_ | refine Z13 c1 rfl rfl ?_ | refine Zp rfl rfl rfl rfl rfl stz' ?_ | refine Z0 rfl ?_ | refine Z4 ?_ | refine Zq rfl ?_)
      rfl
  · have d1 : decide (r = ([], false)) = false := by simp [hr]
    rw [d1] at b1
    rw [if_neg (fun h => hr h.1)]
    repeat' first | ((with_reducible show V _ _ _ _ _ _); first | refine Z5z rfl (Zef rfl gz rfl rfl rfl) (Z7z none).view ?_ | refine Z3 rfl ?_ | refine Zb rfl rfl ?_) | ((with_reducible show VO _ _ _ _ _ _ _); first | refine Z13 b1 rfl rfl ?_ | refine Zp rfl rfl rfl rfl rfl stz ?_ | refine Z0 rfl ?_ | refine Z4 ?_ | refine Z19 rfl rfl ?_)
    rfl
theorem el_key {r3 xr : Rd} {kind : Int} {S : St} {t x a : Nat} (h1 : RdR S t r3) (h2 : RdR S x xr) (htx : t ≠ x) (ht : 1 < t ∧ 1 < x ∧ 1 < a ∧ a < S.next) (hta : a ≠ t ∧ a ≠ x) (ga : S.get a = some (.var z4)) (g1 : S.get 1 = some (.var z4)) :
    ∀ (fr : List Fr) (y : EX), Zi 200 fr y = Zi 200 [.code (elC [1, 1, 1, 1, 1, 0, 1, 2, 1, 4, 1, 1, 1, 1]), .block 0, .code (elC [1, 1, 1, 1, 1, 1])] .normal → V T (Go.AM.Ends pf_keys_Elem (· = Zfk (if (Z11 r3 kind).1 = ([], false) ∧ xr = ([], false) then some ((Z11 r3 kind).2, 0) else none))) fr y (Za4 [(2, .ptr 1 0), (5, .ptr t 0), (6, .ptr x 0), (7, .ptr a 0), (8, .int .i64 0), (9, .int .i64 kind)]) S := by
  intro fr y hadv
  obtain ⟨hta1, hta2⟩ := hta
  obtain ⟨ht1, ht2, ht3, ht4⟩ := ht
  obtain ⟨B, b1, b2, b3⟩ := key1 h1 (kind := kind)
  have gB1 : B.get 1 = some (.var z4) := b3.get (by have := h1.1; omega) (by omega) g1
  have gBa : B.get a = some (.var z4) := b3.get ht4 hta1 ga
  have bx := h2.apart b3 (Ne.symm htx)
  have stv : storeAt B (.ptr a 0) (.agg (cellsOf (Z11 r3 kind).2)) = some (B.put a (.var (cellsOf (Z11 r3 kind).2))) := Z03 gBa rfl
  have gv : (B.put a (.var (cellsOf (Z11 r3 kind).2))).get a = some (.var (cellsOf (Z11 r3 kind).2)) := St.get_put
  have go : ∀ u, u ≠ a → (B.put a (.var (cellsOf (Z11 r3 kind).2))).get u = B.get u := fun u hu => St.get_put_old (Ne.symm hu)
  have hl := el_tail (res := ((Z11 r3 kind).1, xr, (Z11 r3 kind).2, 0)) (S := B.put a (.var (cellsOf (Z11 r3 kind).2))) (t := t) (x := x) (a := a) (b2.keep (Nat.le_refl _) (go t (Ne.symm hta1))) (bx.keep (Nat.le_refl _) (go x (Ne.symm hta2))) htx ⟨ht1, ht2, ht3, by show a < B.next; have := b3.2.1; omega⟩ ⟨hta1, hta2⟩ gv ((go 1 (by omega)).trans gB1)
  refine Z38 (hadv.trans rfl) ?_
  repeat' first | refine Z3i (hl _ _ rfl) ⟨rfl, rfl, rfl, rfl, rfl, trivial⟩ | refine Z3 rfl ?_ | ((with_reducible show VO _ _ _ _ _ _ _); first | refine Z13 b1 rfl rfl ?_ | refine Zp rfl rfl rfl rfl rfl stv ?_ | refine Z0 rfl ?_ | refine Z4 ?_)
set_option maxHeartbeats 2000000 in
theorem el_name {c : UInt8} {b : List UInt8} {pk pv : PV} (hk : BV pk (c :: b)) (hc : c = 5 ∨ c = 6) {r1 xr : Rd} {kind : Int} {S : St} {t x a : Nat} (h1 : RdR S t r1) (h2 : RdR S x xr) (htx : t ≠ x) (ht : 1 < t ∧ 1 < x ∧ 1 < a ∧ a < S.next) (hta : a ≠ t ∧ a ≠ x) (ga : S.get a = some (.var z4)) (g1 : S.get 1 = some (.var z4)) (g0 : S.get 0 = some (.var [pk, pv])) {r3 : Rd} (hr3 : r3 = if c = 6 ∧ (Z44 r1).2 = false then rdSign (Z44 r1) else Z44 r1) :
    ∀ (fr : List Fr) (y : EX), Zi 200 fr y = Zi 200 [.code (elC [1, 1, 1, 1, 1, 0, 1, 2, 1, 4, 1, 1]), .block 0, .code (elC [1, 1, 1, 1, 1, 1])] .normal → V T (Go.AM.Ends pf_keys_Elem (· = Zfk (if (Z11 r3 kind).1 = ([], false) ∧ xr = ([], false) then some ((Z11 r3 kind).2, 0) else none))) fr y (Za4 [(1, .ptr 0 0), (2, .ptr 1 0), (5, .ptr t 0), (6, .ptr x 0), (7, .ptr a 0), (8, .int .i64 0), (9, .int .i64 kind)]) S := by
  intro fr y hadv
  obtain ⟨hta1, hta2⟩ := hta
  obtain ⟨ht1, ht2, ht3, ht4⟩ := ht
  obtain ⟨B, b1, b2, b3⟩ := name1 h1
  have gB0 : B.get 0 = some (.var [pk, pv]) := b3.get (by have := h1.1; omega) (by omega) g0
  have gB1 : B.get 1 = some (.var z4) := b3.get (by have := h1.1; omega) (by omega) g1
  have gBa : B.get a = some (.var z4) := b3.get ht4 hta1 ga
  have bx := h2.apart b3 (Ne.symm htx)
  have haB : a < B.next := by have := b3.2.1; omega
  have hat := hk.at (n := 0) (b := c) (by omega) rfl
  refine Z38 (hadv.trans rfl) ?_
  generalize hnr : Z44 r1 = nr at *
  obtain ⟨rb, bad⟩ := nr
  rcases hc with rfl | rfl
  · have e : r3 = (rb, bad) := by rw [hr3]; simp
    subst e
    have hl := el_key (kind := kind) b2 bx htx ⟨ht1, ht2, ht3, haB⟩ ⟨hta1, hta2⟩ gBa gB1
    repeat' first | ((with_reducible show V _ _ _ _ _ _); first | refine Z3i (hl _ _ rfl) ⟨rfl, rfl, rfl, rfl, rfl, rfl, trivial⟩ | refine Z3 rfl ?_ | refine Ze rfl rfl ?_) | ((with_reducible show VO _ _ _ _ _ _ _); first | refine Z13 b1 rfl rfl ?_ | refine Zf rfl gB0 rfl ?_ | refine Zh rfl rfl hat ?_ | refine Z0 rfl ?_ | refine Z4 ?_ | refine Z19 rfl rfl ?_)
  · obtain ⟨_, hbl, p, hg, hp⟩ := id b2
    simp only at hg hp hbl
    cases bad with
    | true =>
      have e : r3 = (rb, true) := by rw [hr3]; simp
      subst e
      have hl := el_key (kind := kind) b2 bx htx ⟨ht1, ht2, ht3, haB⟩ ⟨hta1, hta2⟩ gBa gB1
      repeat' first | ((with_reducible show V _ _ _ _ _ _); first | refine Z3i (hl _ _ rfl) ⟨rfl, rfl, rfl, rfl, rfl, rfl, trivial⟩ | refine Z3 rfl ?_ | refine Ze rfl rfl ?_) | ((with_reducible show VO _ _ _ _ _ _ _); first | refine Z13 b1 rfl rfl ?_ | refine Zf rfl gB0 rfl ?_ | refine Zf rfl hg rfl ?_ | refine Zh rfl rfl hat ?_ | refine Z0 rfl ?_ | refine Z4 ?_ | refine Zq rfl ?_)
    | false =>
      cases rb with
      | nil =>
        have e : r3 = ([], true) := by rw [hr3]; simp [rdSign]
        subst e
        have hc0 := Z0o (p := (([] : List UInt8).length : Int) = 0) rfl
        have hst := Z9d (c := .bool true) hg rfl
        have go : ∀ u, u ≠ t → (B.put t (.var [p, .bool true])).get u = B.get u := fun u hu => St.get_put_old (Ne.symm hu)
        have hl := el_key (kind := kind) (S := B.put t (.var [p, .bool true])) (r3 := ([], true)) ⟨b2.1, by simp, p, St.get_put, hp⟩ (bx.keep (Nat.le_refl _) (go x (Ne.symm htx))) htx ⟨ht1, ht2, ht3, haB⟩ ⟨hta1, hta2⟩ ((go a hta1).trans gBa) ((go 1 (by omega)).trans gB1)
        repeat' first | ((with_reducible show V _ _ _ _ _ _); first | refine Z3i (hl _ _ rfl) ⟨rfl, rfl, rfl, rfl, rfl, rfl, trivial⟩ | refine Z3 rfl ?_ | refine Zb rfl rfl ?_) | ((with_reducible show VO _ _ _ _ _ _ _); first | refine Z13 b1 rfl rfl ?_ | refine Zf rfl gB0 rfl ?_ | refine Zf rfl hg rfl ?_ | refine Z0a rfl hp ?_ | refine Z6 hc0 rfl ?_ | refine Zh rfl rfl hat ?_ | refine Zp rfl rfl rfl rfl rfl hst ?_ | refine Z0 rfl ?_ | refine Z4 ?_ | refine Zq rfl ?_)
      | cons n q =>
        have hn := n.toNat_lt
        have hc0 := Z07 (p := ((n :: q).length : Int) = 0) (by simp; omega)
        have hat2 := hp.at (n := 0) (b := n) (by omega) rfl
        have ew : PV.int .i64 (IntKind.i64.wrap (n.toNat : Int)) = PV.int .i64 (n.toNat : Int) := Z6g (by rw [Z06]; omega)
        have ea : PV.int .i64 (IntKind.i64.wrap (1 + (n.toNat : Int))) = PV.int .i64 ((1 + n.toNat : Nat) : Int) := Z6g (by rw [Z06]; omega)
        have el : PV.bool (decide ((n.toNat : Int) ≤ 40)) = PV.bool (decide (n.toNat ≤ 40)) := by
          congr 1
          simp only [decide_eq_decide]
          omega
        obtain ⟨D, d1, d2, d3⟩ := skip1 b2 (n := 1 + n.toNat) (by omega) (decide (n.toNat ≤ 40))
        have e : r3 = (Z1s (n :: q, false) (1 + n.toNat) (decide (n.toNat ≤ 40))).1 := by rw [hr3]; simp [rdSign]
        rw [← e] at d2
        have hl := el_key (kind := kind) d2 (bx.apart d3 (Ne.symm htx)) htx ⟨ht1, ht2, ht3, by have := d3.2.1; omega⟩ ⟨hta1, hta2⟩ (d3.get haB hta1 gBa) (d3.get (by have := b2.1; omega) (by omega) gB1)
        repeat' first | ((with_reducible show V _ _ _ _ _ _); first | refine Z3i (hl _ _ rfl) ⟨rfl, rfl, rfl, rfl, rfl, rfl, trivial⟩ | refine Z3 rfl ?_ | refine Zb rfl rfl ?_ | refine Ze rfl rfl ?_) | ((with_reducible show VO _ _ _ _ _ _ _); first | refine Z13 b1 rfl rfl ?_ | refine Z13 d1 rfl rfl ?_ | refine Zf rfl gB0 rfl ?_ | refine Zf rfl hg rfl ?_ | refine Z0a rfl hp ?_ | refine Z6 hc0 rfl ?_ | refine Zh rfl rfl hat ?_ | refine Zh rfl rfl hat2 ?_ | refine Z6 ew rfl ?_ | refine Z6 ea rfl ?_ | refine Z6 el rfl ?_ | refine Z0 rfl ?_ | refine Z4 ?_ | refine Zq rfl ?_)
set_option maxHeartbeats 4000000 in
theorem run_Elem {pk pv : PV} {k v : List UInt8} (hk : BV pk k) (hv : BV pv v) (hkl : k.length ≤ 1073741824) (hvl : v.length ≤ 1073741824) : T.R (.call Zex [.agg [pk, pv]] (Zfk (elemR k v))) := by
  have hpk := hk.pl
  have hpv := hv.pl
  have ho1 := Zbm hk
  have ho2 := Zbm hv
  obtain ⟨S0, hS0⟩ : ∃ S0 : St, S0 = (emptySt.new (.var [pk, pv])).new (.var z4) := ⟨_, rfl⟩
  have s0 : S0.get 0 = some (.var [pk, pv]) := by rw [hS0]; rfl
  have s1 : S0.get 1 = some (.var z4) := by rw [hS0]; rfl
  have sn : S0.next = 2 := by rw [hS0]; rfl
  obtain ⟨t, B, b1, b2, b3, b4, b5⟩ := open1 (S := S0) hk hv hkl (kinds := [3, 4, 5, 6]) (by simp)
  have hbd := build_rd hv
  have hcp : ∀ c ∈ [pv, PV.bool false], Pl c := Z0k hpv (Z0k (.bool _) Z45)
  have B0 : B.get 0 = some (.var [pk, pv]) := (b5 0 (by omega)).trans s0
  have B1 : B.get 1 = some (.var z4) := (b5 1 (by omega)).trans s1
  have hD : ∀ (e : EC), e.get 17 = some (.ptr B.next 0) → e.get 6 = some (.ptr B.next 0) → ∀ u ∈ [17, 6], e.get u = some (.ptr B.next 0) := fun e h1 h2 u hu => by
    simp only [List.mem_cons, List.not_mem_nil, or_false] at hu
    rcases hu with rfl | rfl <;> assumption
  obtain ⟨S1, hS1⟩ : ∃ S1 : St, S1 = B.new (.var [pv, .bool false]) := ⟨_, rfl⟩
  have n1 : S1.next = B.next + 1 := by rw [hS1]; rfl
  have o1 : ∀ u, u < B.next → S1.get u = B.get u := fun u hu => by rw [hS1]; exact St.get_new_old hu
  have hx1 : RdR S1 B.next (v, false) := ⟨by omega, hvl, pv, by rw [hS1]; exact St.get_new, hv⟩
  have htB := b3.1
  have ht1 : RdR S1 t (Zep k [3, 4, 5, 6]) := b3.keep (by omega) (o1 t htB)
  have g0 : S1.get 0 = some (.var [pk, pv]) := (o1 0 (by omega)).trans B0
  have g1 : S1.get 1 = some (.var z4) := (o1 1 (by omega)).trans B1
  obtain ⟨_, hrl, p, hg, hp⟩ := id ht1
  have stz : storeAt S1 (.ptr 1 0) (.agg (cellsOf zeroV)) = some (S1.put 1 (.var (cellsOf zeroV))) := Z03 g1 rfl
  have gz : (S1.put 1 (.var (cellsOf zeroV))).get 1 = some (.var (cellsOf zeroV)) := St.get_put
  have hbad : (Zep k [3, 4, 5, 6]).2 = true → T.R (.call Zex [.agg [pk, pv]] (Zfk none)) := fun hb => by
    rw [hb] at hg
    refine Zo rfl rfl ?_
    repeat' first | ((with_reducible show V _ _ _ _ _ _); first | refine V_X ⟨2, 17, B.next, [17, 6], [pv, .bool false], S0, B⟩ hS0 b4 (Nat.le_refl _) rfl ?_ | refine Z5z rfl (Zef rfl gz rfl rfl rfl) (Z7z none).view ?_ | refine Z3 rfl ?_ | refine Zb rfl rfl ?_) | ((with_reducible show VO _ _ _ _ _ _ _); first | refine Zf rfl hg rfl ?_ | refine Zp rfl rfl rfl rfl rfl stz ?_ | refine Z0 rfl ?_ | refine Z9 rfl ?_ | refine Z4 ?_ | refine Z19 rfl rfl ?_) | ((with_reducible show VX _ _ _ _ _ _ _ _ _ _); first | refine Z98 hS1 rfl rfl (hD _ rfl rfl) ?_ | refine Z97 rfl rfl rfl rfl rfl b1 rfl ?_ | refine Z5y rfl rfl rfl s0 B0 rfl ?_ | refine Z5x rfl rfl rfl s0 B0 rfl ?_ | refine Z2w rfl rfl (fun _ => hbd _ _ _ rfl) ?_ | refine Zgm rfl rfl rfl rfl rfl rfl hcp ?_ | refine Z99 rfl rfl rfl rfl rfl ?_ | refine Z2w rfl rfl (fun _ => rfl) ?_)
    rfl
  cases k with
  | nil => exact hbad rfl
  | cons c b =>
    by_cases hc : c ∈ [3, 4, 5, 6]
    · have hop : Zep (c :: b) [3, 4, 5, 6] = (b, false) := by simp only [Zep]; rw [if_pos hc]
      rw [hop] at hg hp ht1 hrl
      cases b with
      | nil =>
        have he : elemR [c] v = none := by simp [elemR]
        have hc0 := Z0o (p := (([] : List UInt8).length : Int) = 0) rfl
        rw [he]
        refine Zo rfl rfl ?_
        repeat' first | ((with_reducible show V _ _ _ _ _ _); first | refine V_X ⟨2, 17, B.next, [17, 6], [pv, .bool false], S0, B⟩ hS0 b4 (Nat.le_refl _) rfl ?_ | refine Z5z rfl (Zef rfl gz rfl rfl rfl) (Z7z none).view ?_ | refine Z3 rfl ?_ | refine Zb rfl rfl ?_) | ((with_reducible show VO _ _ _ _ _ _ _); first | refine Zf rfl hg rfl ?_ | refine Z0a rfl hp ?_ | refine Z6 hc0 rfl ?_ | refine Zp rfl rfl rfl rfl rfl stz ?_ | refine Z0 rfl ?_ | refine Z9 rfl ?_ | refine Z4 ?_ | refine Zq rfl ?_) | ((with_reducible show VX _ _ _ _ _ _ _ _ _ _); first | refine Z98 hS1 rfl rfl (hD _ rfl rfl) ?_ | refine Z97 rfl rfl rfl rfl rfl b1 rfl ?_ | refine Z5y rfl rfl rfl s0 B0 rfl ?_ | refine Z5x rfl rfl rfl s0 B0 rfl ?_ | refine Z2w rfl rfl (fun _ => hbd _ _ _ rfl) ?_ | refine Zgm rfl rfl rfl rfl rfl rfl hcp ?_ | refine Z99 rfl rfl rfl rfl rfl ?_ | refine Z2w rfl rfl (fun _ => rfl) ?_)
        rfl
      | cons d b =>
        have hc0 := Z07 (p := ((d :: b).length : Int) = 0) (by simp; omega)
        have hat := hk.at (n := 0) (b := c) (by omega) rfl
        have hat2 := hp.at (n := 0) (b := d) (by omega) rfl
        obtain ⟨S2, hS2⟩ : ∃ S2 : St, S2 = S1.new (.var z4) := ⟨_, rfl⟩
        have o2 : ∀ u, u < S1.next → S2.get u = S1.get u := fun u hu => by rw [hS2]; exact St.get_new_old hu
        have n2 : S2.next = S1.next + 1 := by rw [hS2]; rfl
        have w2 : S2.get S1.next = some (.var z4) := by rw [hS2]; exact St.get_new
        have ht2 : RdR S2 t (d :: b, false) := ht1.keep (by omega) (o2 t (by omega))
        have hx2 : RdR S2 B.next (v, false) := hx1.keep (by omega) (o2 _ (by omega))
        have w1 : S2.get 1 = some (.var z4) := (o2 1 (by omega)).trans g1
        have w0 : S2.get 0 = some (.var [pk, pv]) := (o2 0 (by omega)).trans g0
        have htx : t ≠ B.next := by omega
        have he : elemR (c :: d :: b) v = (if (if c = 3 ∨ c = 4 then elemA (d :: b) v else elemB c (d :: b) v).1 = ([], false) ∧ (if c = 3 ∨ c = 4 then elemA (d :: b) v else elemB c (d :: b) v).2.1 = ([], false) then some (if c = 3 ∨ c = 4 then elemA (d :: b) v else elemB c (d :: b) v).2.2 else none) := by
          simp only [elemR]
          rw [if_pos ⟨hc, by simp⟩]
        rw [he]
        by_cases h34 : c = 3 ∨ c = 4
        · rw [if_pos h34]
          obtain ⟨S3, q1, q2, q3⟩ := key1 ht2 (kind := 6)
          obtain ⟨S4, q4, q5, q6⟩ := name1 q2
          obtain ⟨S5, q7, q8, q9⟩ := key1 q5 (kind := 7)
          have m5 : Mut S2 S5 t := (q3.trans q6).trans q9
          have w5 : S5.get S1.next = some (.var z4) := m5.get (by omega) (by omega) w2
          have stv := Z03 (ds := cellsOf (Z11 (Z44 (Z11 (d :: b, false) 6).1) 7).2) w5 rfl
          generalize hS6 : S5.put S1.next (.var (cellsOf (Z11 (Z44 (Z11 (d :: b, false) 6).1) 7).2)) = S6 at stv
          have o6 : ∀ u, u ≠ S1.next → S6.get u = S5.get u := fun u hu => by rw [← hS6]; exact St.get_put_old (Ne.symm hu)
          have w6 : S6.get S1.next = some (.var (cellsOf (Z11 (Z44 (Z11 (d :: b, false) 6).1) 7).2)) := by rw [← hS6]; exact St.get_put
          have n6 : S6.next = S5.next := by rw [← hS6]; rfl
          have l5 := m5.2.1
          have hx6 : RdR S6 B.next (v, false) := (hx2.apart m5 (Ne.symm htx)).keep (by omega) (o6 _ (by omega))
          obtain ⟨S7, q10, q11, q12⟩ := num1 hx6 (lo := 1) (hi := 281474976710656) (by omega) (by omega)
          have ht7 : RdR S7 t (Z11 (Z44 (Z11 (d :: b, false) 6).1) 7).1 := (q8.keep (by omega) (o6 t (by omega))).apart q12 htx
          have hl := el_tail (res := elemA (d :: b) v) (S := S7) (t := t) (x := B.next) (a := S1.next) ht7 q11 htx ⟨by omega, by omega, by omega, by have := q12.2.1; omega⟩ ⟨by omega, by omega⟩ (q12.get (by omega) (by omega) w6) (q12.get (by omega) (by omega) ((o6 1 (by omega)).trans (m5.get (by omega) (by omega) w1)))
          refine Zo rfl rfl ?_
          rcases h34 with rfl | rfl
          · repeat' first | ((with_reducible show V _ _ _ _ _ _); first | refine Z3i (hl _ _ rfl) ⟨rfl, rfl, rfl, rfl, rfl, trivial⟩ | refine V_X ⟨2, 17, B.next, [17, 6], [pv, .bool false], S0, B⟩ hS0 b4 (Nat.le_refl _) rfl ?_ | refine Z3 rfl ?_ | refine Zb rfl rfl ?_ | refine Ze rfl rfl ?_) | ((with_reducible show VO _ _ _ _ _ _ _); first | refine Zf rfl hg rfl ?_ | refine Z0a rfl hp ?_ | refine Z6 hc0 rfl ?_ | refine Z5n hS2 ?_ | refine Zf rfl w0 rfl ?_ | refine Zh rfl rfl hat ?_ | refine Z13 q1 rfl rfl ?_ | refine Z13 q4 rfl rfl ?_ | refine Z13 q7 rfl rfl ?_ | refine Z13 q10 rfl rfl ?_ | refine Zp rfl rfl rfl rfl rfl stv ?_ | refine Z0 rfl ?_ | refine Z9 rfl ?_ | refine Z4 ?_ | refine Zq rfl ?_) | ((with_reducible show VX _ _ _ _ _ _ _ _ _ _); first | refine Z98 hS1 rfl rfl (hD _ rfl rfl) ?_ | refine Z97 rfl rfl rfl rfl rfl b1 rfl ?_ | refine Z5y rfl rfl rfl s0 B0 rfl ?_ | refine Z5x rfl rfl rfl s0 B0 rfl ?_ | refine Z2w rfl rfl (fun _ => hbd _ _ _ rfl) ?_ | refine Zgm rfl rfl rfl rfl rfl rfl hcp ?_ | refine Z99 rfl rfl rfl rfl rfl ?_ | refine Z2w rfl rfl (fun _ => rfl) ?_)
          · repeat' first | ((with_reducible show V _ _ _ _ _ _); first | refine Z3i (hl _ _ rfl) ⟨rfl, rfl, rfl, rfl, rfl, trivial⟩ | refine V_X ⟨2, 17, B.next, [17, 6], [pv, .bool false], S0, B⟩ hS0 b4 (Nat.le_refl _) rfl ?_ | refine Z3 rfl ?_ | refine Zb rfl rfl ?_ | refine Ze rfl rfl ?_) | ((with_reducible show VO _ _ _ _ _ _ _); first | refine Zf rfl hg rfl ?_ | refine Z0a rfl hp ?_ | refine Z6 hc0 rfl ?_ | refine Z5n hS2 ?_ | refine Zf rfl w0 rfl ?_ | refine Zh rfl rfl hat ?_ | refine Z13 q1 rfl rfl ?_ | refine Z13 q4 rfl rfl ?_ | refine Z13 q7 rfl rfl ?_ | refine Z13 q10 rfl rfl ?_ | refine Zp rfl rfl rfl rfl rfl stv ?_ | refine Z0 rfl ?_ | refine Z9 rfl ?_ | refine Z4 ?_ | refine Zq rfl ?_) | ((with_reducible show VX _ _ _ _ _ _ _ _ _ _); first | refine Z98 hS1 rfl rfl (hD _ rfl rfl) ?_ | refine Z97 rfl rfl rfl rfl rfl b1 rfl ?_ | refine Z5y rfl rfl rfl s0 B0 rfl ?_ | refine Z5x rfl rfl rfl s0 B0 rfl ?_ | refine Z2w rfl rfl (fun _ => hbd _ _ _ rfl) ?_ | refine Zgm rfl rfl rfl rfl rfl rfl hcp ?_ | refine Z99 rfl rfl rfl rfl rfl ?_ | refine Z2w rfl rfl (fun _ => rfl) ?_)
        · rw [if_neg h34]
          have h56 : c = 5 ∨ c = 6 := by
            simp only [List.mem_cons, List.not_mem_nil, or_false] at hc
            rcases hc with h | h | h | h
            · exact absurd (.inl h) h34
            · exact absurd (.inr h) h34
            · exact .inl h
            · exact .inr h
          have hd := d.toNat_lt
          have ew : PV.int .i64 (IntKind.i64.wrap (d.toNat : Int)) = PV.int .i64 (d.toNat : Int) := Z6g (by rw [Z06]; omega)
          obtain ⟨S3, q1, q2, q3⟩ := skip1 ht2 (n := 1) (by omega) (decide (d.toNat = 6) || decide (d.toNat = 7))
          obtain ⟨_, _, p2, hg2, hp2⟩ := id ht2
          simp only at hg2 hp2
          have hat3 := hp2.at (n := 0) (b := d) (by omega) rfl
          have hl := el_name hk h56 (kind := d.toNat) q2 (hx2.apart q3 (Ne.symm htx)) htx ⟨by omega, by omega, by omega, by have := q3.2.1; omega⟩ ⟨by omega, by omega⟩ (q3.get (by omega) (by omega) w2) (q3.get (by omega) (by omega) w1) (q3.get (by omega) (by omega) w0) rfl
          have hln : ∀ (fr : List Fr) (y : EX), Zi 200 fr y = Zi 200 [.code (elC [1, 1, 1, 1, 1, 0, 1, 2, 1, 4, 1, 1]), .block 0, .code (elC [1, 1, 1, 1, 1, 1])] .normal → V T (Go.AM.Ends pf_keys_Elem (· = Zfk (if (elemB c (d :: b) v).1 = ([], false) ∧ (elemB c (d :: b) v).2.1 = ([], false) then some (elemB c (d :: b) v).2.2 else none))) fr y (Za4 [(1, .ptr 0 0), (2, .ptr 1 0), (5, .ptr t 0), (6, .ptr B.next 0), (7, .ptr S1.next 0), (8, .int .i64 0), (9, .int .i64 d.toNat)]) S3 := hl
          by_cases h6 : d.toNat = 6
          · have d6 := Z0o (p := (d.toNat : Int) = 6) (by omega)
            rw [decide_eq_true h6, Bool.true_or] at q1
            refine Zo rfl rfl ?_
            rcases h56 with rfl | rfl
            · repeat' first | ((with_reducible show V _ _ _ _ _ _); first | refine Z3i (hln _ _ rfl) ⟨rfl, rfl, rfl, rfl, rfl, rfl, rfl, trivial⟩ | refine V_X ⟨2, 17, B.next, [17, 6], [pv, .bool false], S0, B⟩ hS0 b4 (Nat.le_refl _) rfl ?_ | refine Z3 rfl ?_ | refine Ze rfl rfl ?_) | ((with_reducible show VO _ _ _ _ _ _ _); first | refine Zf rfl hg2 rfl ?_ | refine Zf rfl hg rfl ?_ | refine Z0a rfl hp ?_ | refine Z6 hc0 rfl ?_ | refine Z5n hS2 ?_ | refine Zf rfl w0 rfl ?_ | refine Zh rfl rfl hat ?_ | refine Zh rfl rfl hat3 ?_ | refine Z6 ew rfl ?_ | refine Z6 d6 rfl ?_ | refine Z13 q1 rfl rfl ?_ | refine Z0 rfl ?_ | refine Z9 rfl ?_ | refine Z4 ?_ | refine Zq rfl ?_ | refine Z19 rfl rfl ?_) | ((with_reducible show VX _ _ _ _ _ _ _ _ _ _); first | refine Z98 hS1 rfl rfl (hD _ rfl rfl) ?_ | refine Z97 rfl rfl rfl rfl rfl b1 rfl ?_ | refine Z5y rfl rfl rfl s0 B0 rfl ?_ | refine Z5x rfl rfl rfl s0 B0 rfl ?_ | refine Z2w rfl rfl (fun _ => hbd _ _ _ rfl) ?_ | refine Zgm rfl rfl rfl rfl rfl rfl hcp ?_ | refine Z99 rfl rfl rfl rfl rfl ?_ | refine Z2w rfl rfl (fun _ => rfl) ?_)
            · repeat' first | ((with_reducible show V _ _ _ _ _ _); first | refine Z3i (hln _ _ rfl) ⟨rfl, rfl, rfl, rfl, rfl, rfl, rfl, trivial⟩ | refine V_X ⟨2, 17, B.next, [17, 6], [pv, .bool false], S0, B⟩ hS0 b4 (Nat.le_refl _) rfl ?_ | refine Z3 rfl ?_ | refine Ze rfl rfl ?_) | ((with_reducible show VO _ _ _ _ _ _ _); first | refine Zf rfl hg2 rfl ?_ | refine Zf rfl hg rfl ?_ | refine Z0a rfl hp ?_ | refine Z6 hc0 rfl ?_ | refine Z5n hS2 ?_ | refine Zf rfl w0 rfl ?_ | refine Zh rfl rfl hat ?_ | refine Zh rfl rfl hat3 ?_ | refine Z6 ew rfl ?_ | refine Z6 d6 rfl ?_ | refine Z13 q1 rfl rfl ?_ | refine Z0 rfl ?_ | refine Z9 rfl ?_ | refine Z4 ?_ | refine Zq rfl ?_ | refine Z19 rfl rfl ?_) | ((with_reducible show VX _ _ _ _ _ _ _ _ _ _); first | refine Z98 hS1 rfl rfl (hD _ rfl rfl) ?_ | refine Z97 rfl rfl rfl rfl rfl b1 rfl ?_ | refine Z5y rfl rfl rfl s0 B0 rfl ?_ | refine Z5x rfl rfl rfl s0 B0 rfl ?_ | refine Z2w rfl rfl (fun _ => hbd _ _ _ rfl) ?_ | refine Zgm rfl rfl rfl rfl rfl rfl hcp ?_ | refine Z99 rfl rfl rfl rfl rfl ?_ | refine Z2w rfl rfl (fun _ => rfl) ?_)
          · have d6 := Z07 (p := (d.toNat : Int) = 6) (by omega)
            rw [decide_eq_false h6, Bool.false_or] at q1
            by_cases h7 : d.toNat = 7
            · have d7 := Z0o (p := (d.toNat : Int) = 7) (by omega)
              rw [decide_eq_true h7] at q1
              refine Zo rfl rfl ?_
              rcases h56 with rfl | rfl
              · repeat' first | ((with_reducible show V _ _ _ _ _ _); first | refine Z3i (hln _ _ rfl) ⟨rfl, rfl, rfl, rfl, rfl, rfl, rfl, trivial⟩ | refine V_X ⟨2, 17, B.next, [17, 6], [pv, .bool false], S0, B⟩ hS0 b4 (Nat.le_refl _) rfl ?_ | refine Z3 rfl ?_ | refine Ze rfl rfl ?_) | ((with_reducible show VO _ _ _ _ _ _ _); first | refine Zf rfl hg2 rfl ?_ | refine Zf rfl hg rfl ?_ | refine Z0a rfl hp ?_ | refine Z6 hc0 rfl ?_ | refine Z5n hS2 ?_ | refine Zf rfl w0 rfl ?_ | refine Zh rfl rfl hat ?_ | refine Zh rfl rfl hat3 ?_ | refine Z6 ew rfl ?_ | refine Z6 d6 rfl ?_ | refine Z6 d7 rfl ?_ | refine Z13 q1 rfl rfl ?_ | refine Z0 rfl ?_ | refine Z9 rfl ?_ | refine Z4 ?_ | refine Zq rfl ?_) | ((with_reducible show VX _ _ _ _ _ _ _ _ _ _); first | refine Z98 hS1 rfl rfl (hD _ rfl rfl) ?_ | refine Z97 rfl rfl rfl rfl rfl b1 rfl ?_ | refine Z5y rfl rfl rfl s0 B0 rfl ?_ | refine Z5x rfl rfl rfl s0 B0 rfl ?_ | refine Z2w rfl rfl (fun _ => hbd _ _ _ rfl) ?_ | refine Zgm rfl rfl rfl rfl rfl rfl hcp ?_ | refine Z99 rfl rfl rfl rfl rfl ?_ | refine Z2w rfl rfl (fun _ => rfl) ?_)
              · repeat' first | ((with_reducible show V _ _ _ _ _ _); first | refine Z3i (hln _ _ rfl) ⟨rfl, rfl, rfl, rfl, rfl, rfl, rfl, trivial⟩ | refine V_X ⟨2, 17, B.next, [17, 6], [pv, .bool false], S0, B⟩ hS0 b4 (Nat.le_refl _) rfl ?_ | refine Z3 rfl ?_ | refine Ze rfl rfl ?_) | ((with_reducible show VO _ _ _ _ _ _ _); first | refine Zf rfl hg2 rfl ?_ | refine Zf rfl hg rfl ?_ | refine Z0a rfl hp ?_ | refine Z6 hc0 rfl ?_ | refine Z5n hS2 ?_ | refine Zf rfl w0 rfl ?_ | refine Zh rfl rfl hat ?_ | refine Zh rfl rfl hat3 ?_ | refine Z6 ew rfl ?_ | refine Z6 d6 rfl ?_ | refine Z6 d7 rfl ?_ | refine Z13 q1 rfl rfl ?_ | refine Z0 rfl ?_ | refine Z9 rfl ?_ | refine Z4 ?_ | refine Zq rfl ?_) | ((with_reducible show VX _ _ _ _ _ _ _ _ _ _); first | refine Z98 hS1 rfl rfl (hD _ rfl rfl) ?_ | refine Z97 rfl rfl rfl rfl rfl b1 rfl ?_ | refine Z5y rfl rfl rfl s0 B0 rfl ?_ | refine Z5x rfl rfl rfl s0 B0 rfl ?_ | refine Z2w rfl rfl (fun _ => hbd _ _ _ rfl) ?_ | refine Zgm rfl rfl rfl rfl rfl rfl hcp ?_ | refine Z99 rfl rfl rfl rfl rfl ?_ | refine Z2w rfl rfl (fun _ => rfl) ?_)
            · have d7 := Z07 (p := (d.toNat : Int) = 7) (by omega)
              rw [decide_eq_false h7] at q1
              refine Zo rfl rfl ?_
              rcases h56 with rfl | rfl
              · repeat' first | ((with_reducible show V _ _ _ _ _ _); first | refine Z3i (hln _ _ rfl) ⟨rfl, rfl, rfl, rfl, rfl, rfl, rfl, trivial⟩ | refine V_X ⟨2, 17, B.next, [17, 6], [pv, .bool false], S0, B⟩ hS0 b4 (Nat.le_refl _) rfl ?_ | refine Z3 rfl ?_ | refine Ze rfl rfl ?_) | ((with_reducible show VO _ _ _ _ _ _ _); first | refine Zf rfl hg2 rfl ?_ | refine Zf rfl hg rfl ?_ | refine Z0a rfl hp ?_ | refine Z6 hc0 rfl ?_ | refine Z5n hS2 ?_ | refine Zf rfl w0 rfl ?_ | refine Zh rfl rfl hat ?_ | refine Zh rfl rfl hat3 ?_ | refine Z6 ew rfl ?_ | refine Z6 d6 rfl ?_ | refine Z6 d7 rfl ?_ | refine Z13 q1 rfl rfl ?_ | refine Z0 rfl ?_ | refine Z9 rfl ?_ | refine Z4 ?_ | refine Zq rfl ?_) | ((with_reducible show VX _ _ _ _ _ _ _ _ _ _); first | refine Z98 hS1 rfl rfl (hD _ rfl rfl) ?_ | refine Z97 rfl rfl rfl rfl rfl b1 rfl ?_ | refine Z5y rfl rfl rfl s0 B0 rfl ?_ | refine Z5x rfl rfl rfl s0 B0 rfl ?_ | refine Z2w rfl rfl (fun _ => hbd _ _ _ rfl) ?_ | refine Zgm rfl rfl rfl rfl rfl rfl hcp ?_ | refine Z99 rfl rfl rfl rfl rfl ?_ | refine Z2w rfl rfl (fun _ => rfl) ?_)
              · repeat' first | ((with_reducible show V _ _ _ _ _ _); first | refine Z3i (hln _ _ rfl) ⟨rfl, rfl, rfl, rfl, rfl, rfl, rfl, trivial⟩ | refine V_X ⟨2, 17, B.next, [17, 6], [pv, .bool false], S0, B⟩ hS0 b4 (Nat.le_refl _) rfl ?_ | refine Z3 rfl ?_ | refine Ze rfl rfl ?_) | ((with_reducible show VO _ _ _ _ _ _ _); first | refine Zf rfl hg2 rfl ?_ | refine Zf rfl hg rfl ?_ | refine Z0a rfl hp ?_ | refine Z6 hc0 rfl ?_ | refine Z5n hS2 ?_ | refine Zf rfl w0 rfl ?_ | refine Zh rfl rfl hat ?_ | refine Zh rfl rfl hat3 ?_ | refine Z6 ew rfl ?_ | refine Z6 d6 rfl ?_ | refine Z6 d7 rfl ?_ | refine Z13 q1 rfl rfl ?_ | refine Z0 rfl ?_ | refine Z9 rfl ?_ | refine Z4 ?_ | refine Zq rfl ?_) | ((with_reducible show VX _ _ _ _ _ _ _ _ _ _); first | refine Z98 hS1 rfl rfl (hD _ rfl rfl) ?_ | refine Z97 rfl rfl rfl rfl rfl b1 rfl ?_ | refine Z5y rfl rfl rfl s0 B0 rfl ?_ | refine Z5x rfl rfl rfl s0 B0 rfl ?_ | refine Z2w rfl rfl (fun _ => hbd _ _ _ rfl) ?_ | refine Zgm rfl rfl rfl rfl rfl rfl hcp ?_ | refine Z99 rfl rfl rfl rfl rfl ?_ | refine Z2w rfl rfl (fun _ => rfl) ?_)
    · refine (?_ : elemR (c :: b) v = none) ▸ hbad ?_
      · simp only [elemR]; rw [if_neg (fun h => hc h.1)]
      · simp only [Zep]; rw [if_neg hc]
end Go.Proofs.YtgdjnlopdpjnaaaDoor
