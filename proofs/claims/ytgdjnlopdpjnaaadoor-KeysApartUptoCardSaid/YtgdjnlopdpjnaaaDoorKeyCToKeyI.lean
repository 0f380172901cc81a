/- keys: texts and properties laid. · keys: properties laid; with what keys begin. · keys: signs, what an element's property's keys begin with, an element's key. · keys.indexes: rows of entries whose cells are one's own. · keys.indexes: the walk. · keys.indexes. · keys.indexes, as a call. -/
import Derived.Test.YtgdjnlopdpjnaaaDoorCodEToKeyB
import Derived.Test.YtgdjnlopdpjnaaaDoorValIToPutW
set_option linter.unusedVariables false
set_option linter.unusedSimpArgs false
namespace Go.Proofs.YtgdjnlopdpjnaaaDoor
open Go Go.AM Go.RowKit
theorem C_loadW {T : Tb} {Q : Z59} {C : Chn} {j : Nat} {k : List Fr} {l : List POp} {kill : List Nat} {ρ : EC} {b : Bool} {i : Nat} {d : Option Nat} {a : Opd} {t off n : Nat} {cs ds : List PV} (hx : C.idx j = none) (hw : C.away j ⟨d, none, .load n true a⟩ = true) (ha : a.get ρ = some (.ptr t off)) (hg : ∀ i, (C.S i).get t = some (.var cs)) (hl : off + n ≤ cs.length) (hd : (cs.drop off).take n = ds) (h : Go.AM.VC T Q C (j + 1) l kill k (ρ.sets d (.agg ds)) b i) : Go.AM.VC T Q C j (⟨d, none, .load n true a⟩ :: l) kill k ρ b i :=
  C_look hx hw (fun i => by
    have hs := hg i
    simp only [Zg, Z62, ha, loadAt, behind, hs, Option.bind_some, slice?]
    rw [if_pos hl]
    simp [hd]) h
theorem rb_of {st : St} {p : PV} {s : List UInt8} (h : BV p s) : RB st p s := by
  cases h with
  | nil => exact .inl ⟨rfl, rfl⟩
  | sl s f => exact .inr (.inl ⟨f, rfl⟩)
theorem Zdu {f : Nat} {args : List PV} {t : List UInt8} {v' : PV} {st' : St} (h : T.R (.raw f args emptySt v' st')) (hA : AccT 1 st' v' (Z1 t)) : ∃ q, T.R (.call f args q) ∧ BV q t := by
  obtain ⟨q, k1, k2⟩ := AB.view (.inr hA)
  exact ⟨q, Za2 h k1, k2⟩
theorem Zfg {st st1 st2 : St} {v1 v2 : PV} (h : Grow st .nilSl st1 v1) (k : Grow st1 v1 st2 v2) (hf : ∃ m, Z0n v1 = some m ∧ st.next ≤ m) : Grow st .nilSl st2 v2 := by
  obtain ⟨m, hm, hle⟩ := hf
  refine ⟨k.1.trans h.1, Nat.le_trans h.2.1 k.2.1, ?_, fun u hu hn => ?_⟩
  · rcases k.2.2.1 with e | ⟨n, e, hn⟩
    · exact .inr ⟨m, e.trans hm, hle⟩
    · exact .inr ⟨n, e, Nat.le_trans h.2.1 hn⟩
  · exact (k.2.2.2 u (Nat.lt_of_lt_of_le hu h.2.1) (by rw [hm]; intro e; injection e with e; omega)).trans (h.2.2.2 u hu hn)
theorem numK_ne (n : Int) : Z4k n ≠ [] := putL_ne _ _
theorem Ze0 {s : List UInt8} (h : s ≠ []) : Z1 s ≠ [] := by simpa [Z1] using h
theorem putTextR {st : St} {b : PV} {s t : List UInt8} (hbn : st.base = st.next) (hv : RB st b s) (hs : s.length + t.length ≤ 10000000000000) (ht : t.length ≤ 140737488355328) :
    ∃ v' st', T.R (.raw Z91 [b, .str t] st v' st') ∧ AccT 1 st' v' (Z1 (s ++ Z49 t)) ∧ Grow st .nilSl st' v' := by
  obtain ⟨v1, st1, h1, h2, h3⟩ := putK1 (st := ⟨st.next, st.next, st.toks⟩) rfl (hv.keep (Nat.le_refl _) (fun _ _ => rfl)) (by omega) (i64_len ht) true
  have hl : (Z4k t.length).length ≤ 10 := Z2h _ _
  have hA : AccT 1 ⟨st.base, st1.next, st1.toks⟩ v1 (Z1 (s ++ Z4k t.length)) := h2
  obtain ⟨v2, st2, k1, k2, k3⟩ := Z3m hA t (by rw [List.length_append]; omega)
  have hG : Grow st .nilSl ⟨st.base, st1.next, st1.toks⟩ v1 := Grow.re (b := 0) h3
  refine Z1c rfl rfl ?_
  repeat' first | refine Z05 rfl rfl ?_ | refine Z3 rfl ?_ | ((with_reducible show VO _ _ _ _ _ _ _); first | refine Z0d h1 h3.1 rfl rfl ?_ | refine Z02 rfl rfl rfl (Z00 _) (by decide) (by decide) k1 ?_ | refine Z0 rfl ?_ | refine Z4 ?_)
  refine ⟨by simp only [Z49]; rw [← List.append_assoc]; exact k2, Zfg hG k3 ?_⟩
  exact AccT.none_fresh hG hA (Ze0 (by simp [numK_ne]))
theorem Zcz {b : PV} {s t : List UInt8} (hb : BV b s) (hs : s.length + t.length ≤ 10000000000000) (ht : t.length ≤ 140737488355328) : ∃ q, T.R (.call Z91 [b, .str t] q) ∧ BV q (s ++ Z49 t) := by
  obtain ⟨v', st', h1, h2, _⟩ := putTextR (st := emptySt) rfl (rb_of hb) hs ht
  exact Zdu h1 h2
theorem call_put1 {n : Int} (hn : I64 n) (f : Bool) : ∃ q, T.R (.call Z8a [.nilSl, .sl [[.int .i64 n]] f] q) ∧ BV q (Z4k n) := by
  obtain ⟨v', st', h1, h2, _⟩ := putK1 (st := emptySt) (b := .nilSl) (s := []) rfl (.inl ⟨rfl, rfl⟩) (by simp) hn f
  exact Zdu h1 h2
theorem call_put2 {n m : Int} (hn : I64 n) (hm : I64 m) (f : Bool) : ∃ q, T.R (.call Z8a [.nilSl, .sl [[.int .i64 n], [.int .i64 m]] f] q) ∧ BV q (Z4k n ++ Z4k m) := by
  obtain ⟨v', st', h1, h2, _⟩ := putK2 (st := emptySt) (b := .nilSl) (s := []) rfl (.inl ⟨rfl, rfl⟩) (by simp) hn hm f
  exact Zdu h1 h2
theorem run_PutM {v : Val} {cs : List PV} (hv : VC v cs) (hlen : (Zei v).length ≤ 100000000000000) : ∃ q, T.R (.call Zez [.nilSl, .agg cs] q) ∧ BV q (Zei v) := by
  by_cases hm : Zr 8 v = true
  · have e : Zei v = Zbo v := by simp [Zei, hm]
    rw [e] at hlen ⊢
    exact ⟨_, run_PutMay hv hm hlen, .sl _ _⟩
  · have e : Zei v = [] := by simp [Zei, hm]
    have hchk := Z7j hv
    have hc0 : chk v = 20 := by simp [chk, hm]
    rw [hc0] at hchk
    have plc := hv.pl
    have hA0 : (emptySt.new (.var cs)).get 0 = some (.var cs) := rfl
    rw [e]
    refine ⟨.nilSl, ?_, .nil⟩
    refine Zo rfl rfl ?_
    repeat' first | ((with_reducible show V _ _ _ _ _ _); first | refine Z3 rfl ?_ | refine Zb rfl rfl ?_ | refine Zl rfl rfl ?_) | ((with_reducible show VO _ _ _ _ _ _ _); first | refine Z2m rfl hA0 hv.len4 ?_ | refine Z8 rfl rfl hchk ?_ | refine Z0 rfl ?_ | refine Z9 rfl ?_ | refine Z4 ?_)
    rfl
theorem props_loop {l : List Prp} {p : PV} (hp : LR PpC p l) : ∀ (rest pre : List Prp) (st : St) (b : PV) (s : List UInt8), l = pre ++ rest → AccT 1 st b (Z1 s) → s ≠ [] → s.length + (rest.flatMap propK).length ≤ 1000000000000 →
    V T (PE fun x e st' => x = .exit 0 ∧ ∃ b', e = Za4 [(0, b')] ∧ AccT 1 st' b' (Z1 (s ++ rest.flatMap propK)) ∧ Grow st b st' b') [.code (.loop Z5k)] .normal (Za4 [(0, b), (12, p), (13, .int .i64 l.length), (14, .int .i64 pre.length)]) st := by
  obtain ⟨_, _, hbig⟩ := hp.len
  intro rest
  induction rest with
  | nil =>
    intro pre st b s hl hA hne hlen
    have hlt : decide ((pre.length : Int) < l.length) = false := decide_eq_false (by subst hl; simp)
    refine Zn ?_
    repeat' first | ((with_reducible show V _ _ _ _ _ _); first | refine Z3v hlt rfl rfl ?_ | refine V_out [(0, b)] rfl ⟨rfl, trivial⟩ ⟨rfl, b, rfl, by simpa using hA, .refl _ _⟩ | refine Z3 rfl ?_) | refine Z0 rfl ?_ | refine Z4 ?_
  | cons v rest ih =>
    intro pre st b s hl hA hne hlen
    have hlt : decide ((pre.length : Int) < l.length) = true := decide_eq_true (by subst hl; simp; omega)
    have hpl : pre.length < l.length := by subst hl; simp
    obtain ⟨cs, hat, hvc⟩ := hp.at (fun _ _ h => h.len5) (j := pre.length) (a := v) (by subst hl; simp)
    have hcl := hvc.len5
    have hplc := hvc.pl
    obtain ⟨hnl, vc, rfl, hvv⟩ := hvc
    have hw : IntKind.i64.wrap ((pre.length : Int) + 1) = ((pre ++ [v]).length : Int) := by rw [Z06]; simp; omega
    rw [List.flatMap_cons, List.length_append] at hlen
    have hpk : propK v = Z49 v.name ++ Zei v.val := rfl
    rw [hpk, List.length_append] at hlen
    have htl : (Z49 v.name).length = (Z4k v.name.length).length + v.name.length := by simp [Z49]
    obtain ⟨q, hq1, hq2⟩ := run_PutM hvv (by omega)
    have hg : ((st.new (.var [.str [], .int .i64 0, .int .i64 0, .str [], .nilSl])).put st.next (.var (.str v.name :: vc))).get st.next = some (.var (.str v.name :: vc)) := St.get_put
    have hst : storeAt (st.new (.var [.str [], .int .i64 0, .int .i64 0, .str [], .nilSl])) (.ptr st.next 0) (.agg (.str v.name :: vc)) = some ((st.new (.var [.str [], .int .i64 0, .int .i64 0, .str [], .nilSl])).put st.next (.var (.str v.name :: vc))) := Z03 St.get_new (by rw [hcl]; rfl)
    have hnx : ((st.new (.var [.str [], .int .i64 0, .int .i64 0, .str [], .nilSl])).put st.next (.var (.str v.name :: vc))).next = st.next + 1 := rfl
    have hA1 : AccT 1 ((st.new (.var [.str [], .int .i64 0, .int .i64 0, .str [], .nilSl])).put st.next (.var (.str v.name :: vc))) b (Z1 s) := by
      rcases hA with h | ⟨t, g, rfl, h1, h2⟩
      · exact .inl h
      · exact .inr ⟨t, g, rfl, by rw [St.get_put_old (by omega)]; rw [St.get_new_old h2]; exact h1, by simp [St.new, St.put]; omega⟩
    have hG1 : Grow st b ((st.new (.var [.str [], .int .i64 0, .int .i64 0, .str [], .nilSl])).put st.next (.var (.str v.name :: vc))) b := ⟨rfl, by simp [St.new, St.put], .inl rfl, fun u hu _ => by rw [St.get_put_old (by omega)]; exact St.get_new_old hu⟩
    generalize hS : (st.new (.var [.str [], .int .i64 0, .int .i64 0, .str [], .nilSl])).put st.next (.var (.str v.name :: vc)) = S1 at hst hA1 hG1 hg hnx
    obtain ⟨v1, st1, h1, h2, h3⟩ := putTextR (st := ⟨S1.next, S1.next, S1.toks⟩) rfl ((AccT.rb hA1).keep (Nat.le_refl _) (fun _ _ => rfl)) (t := v.name) (by omega) hnl
    have hA2 : AccT 1 ⟨S1.base, st1.next, st1.toks⟩ v1 (Z1 (s ++ Z49 v.name)) := h2
    have hG2 : Grow S1 .nilSl ⟨S1.base, st1.next, st1.toks⟩ v1 := Grow.re (b := 0) h3
    have hfr := AccT.none_fresh hG2 hA2 (Ze0 (by simp [hne]))
    have hg2 : (⟨S1.base, st1.next, st1.toks⟩ : St).get st.next = some (.var (.str v.name :: vc)) := (hG2.2.2.2 st.next (by omega) (by simp [Z0n])).trans hg
    obtain ⟨v2, S3, k1, k2, k3⟩ := Z3m hA2 (Zei v.val) (by rw [List.length_append]; omega)
    have hg3 : S3.get st.next = some (.var (.str v.name :: vc)) := by
      refine (k3.2.2.2 st.next (by have := hG2.2.1; omega) ?_).trans hg2
      obtain ⟨m, e1, e2⟩ := hfr
      rw [e1]
      intro e
      injection e with e
      omega
    have hG3 : Grow S1 .nilSl S3 v2 := Zfg hG2 k3 hfr
    have hi := ih (pre ++ [v]) S3 v2 (s ++ propK v) (by rw [hl]; simp) (by rw [hpk, ← List.append_assoc]; exact k2) (by simp [hne]) (by rw [hpk, List.length_append, List.length_append]; omega)
    have hall : ∀ i, ((mkC [3, 7] [some 21, some 25] S1 [⟨S1.base, st1.next, st1.toks⟩, S3] none).S i).get st.next = some (.var (.str v.name :: vc)) := Z1b (Q := fun s => s.get st.next = some (.var (.str v.name :: vc))) ⟨hg, hg2, hg3⟩
    have hvl := hvv.len4
    have hplv := hvv.pl
    have hlw : 1 + 4 ≤ (PV.str v.name :: vc).length := by simp [hvl]
    have hdw : ((PV.str v.name :: vc).drop 1).take 4 = vc := by
      rw [List.drop_one, List.tail_cons]
      exact List.take_of_length_le (by omega)
    refine Zn ?_
    repeat' first | ((with_reducible show V _ _ _ _ _ _); first | refine Z27 hlt rfl rfl ?_ | refine V_C (mkC [3, 7] [some 21, some 25] S1 [⟨S1.base, st1.next, st1.toks⟩, S3] none) rfl rfl ?_ | refine Zcb (V_re rfl hi ⟨rfl, rfl, rfl, Z4b hw, trivial⟩) ?_ | refine Z3 rfl ?_) | ((with_reducible show VO _ _ _ _ _ _ _); first | refine Zh rfl rfl hat ?_ | refine Zfu rfl hcl ?_ | refine Zp rfl rfl (List.all_eq_true.2 (fun c hc => by rcases List.mem_cons.1 hc with rfl | hc; exact rfl; exact List.all_eq_true.1 hvv.one c hc)) hcl rfl hst ?_ | refine Z0 rfl ?_ | refine Z9 rfl ?_ | refine Z4 ?_) | ((with_reducible show Go.AM.VC _ _ _ _ _ _ _ _ _ _); first | refine Z4j rfl rfl rfl rfl rfl rfl rfl rfl h1 h3.1 rfl ?_ | refine Z60 rfl rfl rfl hall rfl ?_ | refine C_loadW (ds := vc) rfl rfl rfl hall hlw hdw ?_ | refine Z7a rfl rfl rfl rfl (fun _ => Z17) hq1 ?_ | refine Ze5 rfl rfl rfl rfl rfl rfl rfl rfl rfl (Z0f hq2) (Z00 _) (by decide) (by decide) k1 ?_ | refine Z88 rfl rfl (fun _ => rfl) ?_ | refine C_nil rfl rfl ?_)
    rintro x e st' ⟨rfl, b', rfl, r1, r2⟩
    refine ⟨rfl, b', rfl, by rw [List.flatMap_cons, ← List.append_assoc]; exact r1, hG1.trans ((Grow_nil hG3 k2 (Ze0 (by simp [hne]))).trans r2)⟩
theorem Z6f (v : Val) : (kB v).length ≤ 259 := by
  unfold kB
  split
  · rename_i h
    unfold keyE at h
    unfold keyB
    by_cases hm : Zr 8 v = true
    · by_cases h45 : v.kind = 4 ∨ v.kind = 5
      · simp [Zbg, hm, h45] at h
      · have := form_len hm
        simpa [Zbg, hm, h45, Except.map] using this
    · simp [Zbg, hm] at h
  · simp
theorem putPropsR {st : St} {b : PV} {s : List UInt8} {l : List Prp} {p : PV} (hbn : st.base = st.next) (hv : RB st b s) (hp : LR PpC p l) (hlen : s.length + (Z2o l).length ≤ 100000000000) :
    ∃ v' st', T.R (.raw Z7p [b, p] st v' st') ∧ AccT 1 st' v' (Z1 (s ++ Z2o l)) ∧ Grow st .nilSl st' v' := by
  obtain ⟨e1, e2, e3⟩ := hp.len
  have hpk : Z2o l = Z4k l.length ++ l.flatMap propK := rfl
  rw [hpk, List.length_append] at hlen
  obtain ⟨v1, st1, h1, h2, h3⟩ := putK1 (st := ⟨st.next, st.next, st.toks⟩) rfl (hv.keep (Nat.le_refl _) (fun _ _ => rfl)) (by omega) (n := (l.length : Int)) (by unfold I64; omega) true
  have hA : AccT 1 ⟨st.base, st1.next, st1.toks⟩ v1 (Z1 (s ++ Z4k l.length)) := h2
  have hG : Grow st .nilSl ⟨st.base, st1.next, st1.toks⟩ v1 := Grow.re (b := 0) h3
  have hne : s ++ Z4k (l.length : Int) ≠ [] := by simp [numK_ne]
  have hlp := props_loop hp l [] ⟨st.base, st1.next, st1.toks⟩ v1 (s ++ Z4k l.length) rfl hA hne (by rw [List.length_append]; omega)
  refine Z1c rfl rfl ?_
  repeat' first | refine Zcc rfl hlp ⟨rfl, rfl, rfl, rfl, trivial⟩ ?_ | refine Z3 rfl ?_ | ((with_reducible show VO _ _ _ _ _ _ _); first | refine Z0r rfl e1 e2 ?_ | refine Z0d h1 h3.1 rfl rfl ?_ | refine Z0 rfl ?_ | refine Z4 ?_)
  rintro x e st' ⟨rfl, b', rfl, k1, k2⟩
  repeat' first | refine Z05 rfl rfl ?_ | refine Z3 rfl ?_ | refine Z0 rfl ?_ | refine Z4 ?_
  refine ⟨by rw [hpk, ← List.append_assoc]; exact k1, Zfg hG k2 (AccT.none_fresh hG hA (Ze0 hne))⟩
theorem Zbl {b : PV} {s : List UInt8} {l : List Prp} {p : PV} (hb : BV b s) (hp : LR PpC p l) (hlen : s.length + (Z2o l).length ≤ 100000000000) : ∃ q, T.R (.call Z7p [b, p] q) ∧ BV q (s ++ Z2o l) := by
  obtain ⟨v', st', h1, h2, _⟩ := putPropsR (st := emptySt) rfl (rb_of hb) hp hlen
  exact Zdu h1 h2
def LA (p : PV) (t : List UInt8) : Prop := (p = .nilSl ∧ t = []) ∨ ∃ s : List UInt8, p = .sl [[.str s]] true ∧ s.length ≤ 140737488355328 ∧ t = kB (vStr s)
theorem Zf5 {p : PV} {t : List UInt8} (hp : LA p t) : AppsB T Zew [p] t := by
  intro st b s hbn hA hlen
  rcases hp with ⟨rfl, rfl⟩ | ⟨u, rfl, hu, rfl⟩
  · refine Z1c rfl rfl ?_
    repeat' first | ((with_reducible show V _ _ _ _ _ _); first | refine V_loop rfl (Zn ?_) | refine Z05 rfl rfl ?_ | refine Z3 rfl ?_ | refine Ze rfl rfl ?_) | refine Z0 rfl ?_ | refine Z4 ?_
    exact ⟨by simpa using hA, .refl _ _⟩
  · have hk := keyK (Z92 (vc_str hu) true)
    rw [List.flatMap_cons, List.flatMap_nil, List.append_nil] at hk
    obtain ⟨v1, st1, h1, h2, h3⟩ := hk ⟨st.next, st.next, st.toks⟩ b s rfl hA hlen
    have hstr := run_VStr u
    refine Z1c rfl rfl ?_
    repeat' first | ((with_reducible show V _ _ _ _ _ _); first | refine V_loop rfl (Zn ?_) | refine Z05 rfl rfl ?_ | refine Z3 rfl ?_ | refine Zb rfl rfl ?_ | refine Ze rfl rfl ?_) | ((with_reducible show VO _ _ _ _ _ _ _); first | refine Z8 rfl rfl hstr ?_ | refine Z0d h1 h3.1 rfl rfl ?_ | refine Z0 rfl ?_ | refine Z4 ?_)
    exact ⟨h2, Grow.re (b := 0) h3⟩
theorem Z6u {st st' : St} {s : List UInt8} {f : Bool} {v' : PV} (h : Grow st (.sl (Z1 s) f) st' v') : Grow st .nilSl st' v' := ⟨h.1, h.2.1, h.2.2.1, h.2.2.2⟩
theorem wrapU8 (n : Int) : PV.int .u8 (IntKind.u8.wrap n) = PV.int .u8 ((UInt8.ofNat (n % 256).toNat).toNat : Int) := by
  have := wrap8' n
  simp only [Z1, List.map_cons, List.map_nil] at this
  injection this with h1 _
  injection h1
theorem labelR {kind : Int} {p : PV} {t : List UInt8} (hp : LA p t) (ht : t.length ≤ 1000) : MakesB T n_keys_Label [.int .i64 kind, p] ([5, UInt8.ofNat (kind % 256).toNat] ++ t) := by
  intro st hbn
  obtain ⟨v1, st1, h1, h2, h3⟩ := Zf5 hp ⟨st.next, st.next, st.toks⟩ _ [5, UInt8.ofNat (kind % 256).toNat] rfl (.lit _ _) (by simp; omega)
  have e1 := wrapU8 kind
  refine Z1c rfl rfl ?_
  repeat' first | refine Z05 rfl rfl ?_ | refine Z3 rfl ?_ | ((with_reducible show VO _ _ _ _ _ _ _); first | refine Z6 e1 rfl ?_ | refine Z0d h1 h3.1 rfl rfl ?_ | refine Z0 rfl ?_ | refine Z4 ?_)
  exact ⟨h2, Z6u (Grow.re (b := 0) h3)⟩
theorem outR {n : Int} {p : PV} {t : List UInt8} (hn : I64 n) (hp : LA p t) (ht : t.length ≤ 1000) : MakesB T n_keys_Out [.int .i64 n, p] (3 :: kB (Z6l n) ++ t) := by
  intro st hbn
  have hk := keyK (Z92 (vc_vtx hn) true)
  rw [List.flatMap_cons, List.flatMap_nil, List.append_nil] at hk
  have hkl := Z6f (Z6l n)
  obtain ⟨v1, st1, h1, h2, h3⟩ := hk ⟨st.next, st.next, st.toks⟩ _ [3] rfl (.lit _ _) (by simp; omega)
  obtain ⟨v2, st2, k1, k2, k3⟩ := Zf5 hp ⟨st1.next, st1.next, st1.toks⟩ v1 ([3] ++ kB (Z6l n)) rfl h2 (by simp; omega)
  have hv := Z9i n
  have g1 : Grow st .nilSl ⟨st.base, st1.next, st1.toks⟩ v1 := Z6u (Grow.re (b := 0) h3)
  have g2 : Grow ⟨st.base, st1.next, st1.toks⟩ v1 ⟨st.base, st2.next, st2.toks⟩ v2 := Grow.re (st := ⟨st.base, st1.next, st1.toks⟩) (b := 0) k3
  refine Z1c rfl rfl ?_
  repeat' first | refine Z05 rfl rfl ?_ | refine Z3 rfl ?_ | ((with_reducible show VO _ _ _ _ _ _ _); first | refine Z8 rfl rfl hv ?_ | refine Z0d h1 h3.1 rfl rfl ?_ | refine Z0d k1 k3.1 rfl rfl ?_ | refine Z0 rfl ?_ | refine Z4 ?_)
  exact ⟨k2, g1.trans g2⟩
theorem inR {n : Int} {p : PV} {t : List UInt8} (hn : I64 n) (hp : LA p t) (ht : t.length ≤ 1000) : MakesB T n_keys_In [.int .i64 n, p] (4 :: kB (Z6l n) ++ t) := by
  intro st hbn
  have hk := keyK (Z92 (vc_vtx hn) true)
  rw [List.flatMap_cons, List.flatMap_nil, List.append_nil] at hk
  have hkl := Z6f (Z6l n)
  obtain ⟨v1, st1, h1, h2, h3⟩ := hk ⟨st.next, st.next, st.toks⟩ _ [4] rfl (.lit _ _) (by simp; omega)
  obtain ⟨v2, st2, k1, k2, k3⟩ := Zf5 hp ⟨st1.next, st1.next, st1.toks⟩ v1 ([4] ++ kB (Z6l n)) rfl h2 (by simp; omega)
  have hv := Z9i n
  have g1 : Grow st .nilSl ⟨st.base, st1.next, st1.toks⟩ v1 := Z6u (Grow.re (b := 0) h3)
  have g2 : Grow ⟨st.base, st1.next, st1.toks⟩ v1 ⟨st.base, st2.next, st2.toks⟩ v2 := Grow.re (st := ⟨st.base, st1.next, st1.toks⟩) (b := 0) k3
  refine Z1c rfl rfl ?_
  repeat' first | refine Z05 rfl rfl ?_ | refine Z3 rfl ?_ | ((with_reducible show VO _ _ _ _ _ _ _); first | refine Z8 rfl rfl hv ?_ | refine Z0d h1 h3.1 rfl rfl ?_ | refine Z0d k1 k3.1 rfl rfl ?_ | refine Z0 rfl ?_ | refine Z4 ?_)
  exact ⟨k2, g1.trans g2⟩
theorem bv_take {q : PV} {b : List UInt8} (h : BV q b) {n : Nat} (hn : n ≤ b.length) : ∃ q', (∀ look, sliceSl? look 1 none (some (.int .i64 (n : Int))) none q = some q') ∧ BV q' (b.take n) := by
  cases h with
  | nil =>
    have : n = 0 := by simpa using hn
    subst this
    exact ⟨.nilSl, fun look => by simp [sliceSl?, Z3g?, lenOf], .nil⟩
  | sl s f =>
    refine ⟨_, fun look => slice_hi (Z26 _) (by omega) (by rw [Z01]; omega), ?_⟩
    have : (Z1 b).take (n : Int).toNat = Z1 (b.take n) := by simp [Z1, List.map_take]
    rw [this]
    exact .sl _ _
theorem VC.form2 {v : Val} {cs : List PV} (h : VC v cs) : ∃ s q, cs = [.int .i64 v.kind, .int .i64 v.n, .str s, q] ∧ Pl q := by
  have hp := h.pl
  cases h
  all_goals exact ⟨_, _, rfl, hp _ (by simp)⟩
theorem call_keyNil {v : Val} {cs : List PV} (hv : VC v cs) : ∃ q, T.R (.call Zbu [.nilSl, .sl [cs] true] q) ∧ BV q (kB v) := by
  have hk := keyK (Z92 hv true)
  rw [List.flatMap_cons, List.flatMap_nil, List.append_nil] at hk
  obtain ⟨v1, st1, h1, h2, _⟩ := hk emptySt .nilSl [] rfl (.nil _) (by have := Z6f v; simp; omega)
  obtain ⟨q, k1, k2⟩ := AB.view h2
  exact ⟨q, Za2 h1 k1, k2⟩
theorem minU {n : Nat} : PV.int .i64 (if (40 : Int) < (n : Int) then 40 else (n : Int)) = PV.int .i64 ((min 40 n : Nat) : Int) := Z6g (by split <;> omega)
theorem signR {v : Val} {cs : List PV} (hv : VC v cs) (hlen : (Zei v).length ≤ 100000000000000) : MakesB T n_keys_Sign [.agg cs] (signB v) := by
  intro st hbn
  obtain ⟨s, vq, hcs, hpq⟩ := hv.form2
  obtain ⟨b, hb⟩ : ∃ b, b = if v.kind = 4 ∨ v.kind = 5 then Zei v else kB v := ⟨_, rfl⟩
  have hsb : signB v = UInt8.ofNat (b.take 40).length :: b.take 40 := by rw [hb]; rfl
  have htk : b.take 40 = b.take (min 40 b.length) := by
    rcases Nat.le_total 40 b.length with h | h
    · rw [Nat.min_eq_left h]
    · rw [Nat.min_eq_right h, List.take_of_length_le h, List.take_of_length_le (Nat.le_refl _)]
  have fin : ∀ q, BV q b → ∃ q', (∀ look, sliceSl? look 1 none (some (.int .i64 ((min 40 b.length : Nat) : Int))) none q = some q') ∧ BV q' (b.take 40) := fun q hq => by
    rw [htk]
    exact bv_take hq (Nat.min_le_right _ _)
  have hl40 : (b.take 40).length ≤ 40 := by rw [List.length_take]; omega
  have e2 : PV.int .u8 (IntKind.u8.wrap ((b.take 40).length : Int)) = PV.int .u8 ((UInt8.ofNat (b.take 40).length).toNat : Int) := by
    rw [wrapU8]
    congr 3
    have h1 : ((b.take 40).length : Int) % 256 = ((b.take 40).length : Int) := by omega
    rw [h1]
    rfl
  have e1 := minU (n := b.length)
  obtain ⟨v', st', k1, k2, k3⟩ := (AB.lit (st.new (.var cs)) [UInt8.ofNat (b.take 40).length]).app (t := b.take 40) (by simp; omega)
  have hG : Grow st .nilSl st' v' := Z6u ((Ze4 st (.sl (Z1 [UInt8.ofNat (b.take 40).length]) true) (.var cs)).trans k3)
  have hend : AB st' v' (signB v) ∧ Grow st .nilSl st' v' := ⟨by rw [hsb]; exact k2, hG⟩
  obtain ⟨qp, hp1, hp2⟩ := run_PutM hv hlen
  obtain ⟨qk, hk1, hk2⟩ := call_keyNil hv
  have hg : (st.new (.var cs)).get st.next = some (.var cs) := St.get_new
  subst hcs
  refine Z1c rfl rfl ?_
  by_cases h4 : v.kind = 4
  · have hbp : b = Zei v := by rw [hb, if_pos (.inl h4)]
    rw [← hbp] at hp2
    obtain ⟨q', f1, f2⟩ := fin _ hp2
    have hpl := hp2.pl
    have d4 := Z0o (p := v.kind = 4) h4
    repeat' first | ((with_reducible show V _ _ _ _ _ _); first | refine Z05 rfl rfl hend | refine Z3 rfl ?_ | refine Zb rfl rfl ?_) | ((with_reducible show VO _ _ _ _ _ _ _); first | refine Zf rfl hg rfl ?_ | refine Z2m rfl hg rfl ?_ | refine Z6 d4 rfl ?_ | refine Z8 rfl rfl hp1 ?_ | refine Z0a rfl hp2 ?_ | refine Z6 e1 rfl ?_ | refine Z0 (f1 _) ?_ | refine Z0a rfl f2 ?_ | refine Z6 e2 rfl ?_ | refine Z02 rfl rfl (Z0f f2) (Z00 _) (by decide) (by decide) k1 ?_ | refine Z0 rfl ?_ | refine Z9 rfl ?_ | refine Z4 ?_)
  · have d4 := Z07 (p := v.kind = 4) h4
    by_cases h5 : v.kind = 5
    · have hbp : b = Zei v := by rw [hb, if_pos (.inr h5)]
      rw [← hbp] at hp2
      obtain ⟨q', f1, f2⟩ := fin _ hp2
      have hpl := hp2.pl
      have d5 := Z0o (p := v.kind = 5) h5
      repeat' first | ((with_reducible show V _ _ _ _ _ _); first | refine Z05 rfl rfl hend | refine Z3 rfl ?_ | refine Zb rfl rfl ?_ | refine Ze rfl rfl ?_) | ((with_reducible show VO _ _ _ _ _ _ _); first | refine Zf rfl hg rfl ?_ | refine Z2m rfl hg rfl ?_ | refine Z6 d4 rfl ?_ | refine Z6 d5 rfl ?_ | refine Z8 rfl rfl hp1 ?_ | refine Z0a rfl hp2 ?_ | refine Z6 e1 rfl ?_ | refine Z0 (f1 _) ?_ | refine Z0a rfl f2 ?_ | refine Z6 e2 rfl ?_ | refine Z02 rfl rfl (Z0f f2) (Z00 _) (by decide) (by decide) k1 ?_ | refine Z0 rfl ?_ | refine Z9 rfl ?_ | refine Z4 ?_)
    · have hbp : b = kB v := by rw [hb, if_neg (by simp [h4, h5])]
      rw [← hbp] at hk2
      obtain ⟨q', f1, f2⟩ := fin _ hk2
      have hpl := hk2.pl
      have d5 := Z07 (p := v.kind = 5) h5
      repeat' first | ((with_reducible show V _ _ _ _ _ _); first | refine Z05 rfl rfl hend | refine Z3 rfl ?_ | refine Ze rfl rfl ?_) | ((with_reducible show VO _ _ _ _ _ _ _); first | refine Zf rfl hg rfl ?_ | refine Z2m rfl hg rfl ?_ | refine Z6 d4 rfl ?_ | refine Z6 d5 rfl ?_ | refine Z8 rfl rfl hk1 ?_ | refine Z0a rfl hk2 ?_ | refine Z6 e1 rfl ?_ | refine Z0 (f1 _) ?_ | refine Z0a rfl f2 ?_ | refine Z6 e2 rfl ?_ | refine Z02 rfl rfl (Z0f f2) (Z00 _) (by decide) (by decide) k1 ?_ | refine Z0 rfl ?_ | refine Z9 rfl ?_ | refine Z4 ?_)
def VA (p : PV) (t : List UInt8) : Prop := (p = .nilSl ∧ t = []) ∨ ∃ (v : Val) (cs : List PV), p = .sl [cs] true ∧ VC v cs ∧ (Zei v).length ≤ 100000000000000 ∧ t = signB v
theorem sign_len (v : Val) : (signB v).length ≤ 41 := by
  simp only [signB, List.length_cons, List.length_take]
  omega
theorem propR {kind : Int} {name : List UInt8} {p : PV} {t : List UInt8} (hn : name.length ≤ 140737488355328) (hp : VA p t) : MakesB T n_keys_Prop [.int .i64 kind, .str name, p] ([6, UInt8.ofNat (kind % 256).toNat] ++ kB (vStr name) ++ t) := by
  intro st hbn
  have hk := keyK (Z92 (vc_str hn) true)
  rw [List.flatMap_cons, List.flatMap_nil, List.append_nil] at hk
  have hkl := Z6f (vStr name)
  obtain ⟨v1, st1, h1, h2, h3⟩ := hk ⟨st.next, st.next, st.toks⟩ _ [6, UInt8.ofNat (kind % 256).toNat] rfl (.lit _ _) (by simp; omega)
  have e1 := wrapU8 kind
  have hstr := run_VStr name
  have hA : AB ⟨st.base, st1.next, st1.toks⟩ v1 ([6, UInt8.ofNat (kind % 256).toNat] ++ kB (vStr name)) := h2
  have g1 : Grow st .nilSl ⟨st.base, st1.next, st1.toks⟩ v1 := Z6u (Grow.re (b := 0) h3)
  rcases hp with ⟨rfl, rfl⟩ | ⟨v, cs, rfl, hv, hlen, rfl⟩
  · refine Z1c rfl rfl ?_
    repeat' first | ((with_reducible show V _ _ _ _ _ _); first | refine Z05 rfl rfl ?_ | refine Z3 rfl ?_ | refine Ze rfl rfl ?_) | ((with_reducible show VO _ _ _ _ _ _ _); first | refine Z6 e1 rfl ?_ | refine Z8 rfl rfl hstr ?_ | refine Z0d h1 h3.1 rfl rfl ?_ | refine Z0 rfl ?_ | refine Z4 ?_)
    exact ⟨by rw [List.append_nil]; exact hA, g1⟩
  · obtain ⟨s, vq, hcs, hpq⟩ := hv.form2
    obtain ⟨qs, q1, q2⟩ := (signR hv hlen).call
    have hsl := sign_len v
    obtain ⟨v2, st2, k1, k2, k3⟩ := hA.app (t := signB v) (by simp; omega)
    subst hcs
    refine Z1c rfl rfl ?_
    repeat' first | ((with_reducible show V _ _ _ _ _ _); first | refine Z05 rfl rfl ?_ | refine Z3 rfl ?_ | refine Zb rfl rfl ?_) | ((with_reducible show VO _ _ _ _ _ _ _); first | refine Z6 e1 rfl ?_ | refine Z8 rfl rfl hstr ?_ | refine Z0d h1 h3.1 rfl rfl ?_ | refine Z8 rfl rfl q1 ?_ | refine Z02 rfl rfl (Z0f q2) (Z00 _) (by decide) (by decide) k1 ?_ | refine Z0 rfl ?_ | refine Z4 ?_)
    exact ⟨k2, g1.trans k3⟩
theorem Zaj {n : Int} : T.R (.call n_keys_badId [.int .i64 n] (.bool (!idB n))) := by
  refine Zo rfl rfl ?_
  by_cases h1 : n < 1
  · have d1 := Z0o (p := n < 1) h1
    have hb : idB n = false := by simp [idB]; omega
    rw [hb]
    repeat' first | refine Z3 rfl ?_ | refine Zl rfl rfl ?_ | ((with_reducible show VO _ _ _ _ _ _ _); first | refine Z6 d1 rfl ?_ | refine Z0 rfl ?_ | refine Z4 ?_ | refine Z19 rfl rfl ?_)
    rfl
  · have d1 := Z07 (p := n < 1) h1
    by_cases h2 : 281474976710656 < n
    · have d2 := Z0o (p := (281474976710656 : Int) < n) h2
      have hb : idB n = false := by simp [idB]; omega
      rw [hb]
      repeat' first | refine Z3 rfl ?_ | refine Zl rfl rfl ?_ | ((with_reducible show VO _ _ _ _ _ _ _); first | refine Z6 d1 rfl ?_ | refine Z6 d2 rfl ?_ | refine Z0 rfl ?_ | refine Z4 ?_ | refine Zq rfl ?_)
      rfl
    · have d2 := Z07 (p := (281474976710656 : Int) < n) h2
      have hb : idB n = true := by simp [idB]; omega
      rw [hb]
      repeat' first | refine Z3 rfl ?_ | refine Zl rfl rfl ?_ | ((with_reducible show VO _ _ _ _ _ _ _); first | refine Z6 d1 rfl ?_ | refine Z6 d2 rfl ?_ | refine Z0 rfl ?_ | refine Z4 ?_ | refine Zq rfl ?_)
      rfl
theorem keyOneR {v : Val} {cs : List PV} (hv : VC v cs) : MakesB T n_keys_Key [.agg cs] (Z41 v) := by
  intro st hbn
  obtain ⟨s, vq, hcs, hpq⟩ := hv.form2
  have hchk := Z7j hv
  have hg : (st.new (.var cs)).get st.next = some (.var cs) := St.get_new
  have hG0 : Grow st .nilSl (st.new (.var cs)) .nilSl := Ze4 st .nilSl (.var cs)
  have hkl := Z6f v
  have hk := keyK (Z92 hv true)
  rw [List.flatMap_cons, List.flatMap_nil, List.append_nil] at hk
  obtain ⟨v1, st1, h1, h2, h3⟩ := hk ⟨(st.new (.var cs)).next, (st.new (.var cs)).next, (st.new (.var cs)).toks⟩ _ [1] rfl (.lit _ _) (by simp; omega)
  obtain ⟨v2, st2, k1, k2, k3⟩ := hk ⟨(st.new (.var cs)).next, (st.new (.var cs)).next, (st.new (.var cs)).toks⟩ _ [2] rfl (.lit _ _) (by simp; omega)
  have g1 : Grow st .nilSl ⟨st.base, st1.next, st1.toks⟩ v1 := hG0.trans (Z6u (Grow.re (st := st.new (.var cs)) (b := 0) h3))
  have g2 : Grow st .nilSl ⟨st.base, st2.next, st2.toks⟩ v2 := hG0.trans (Z6u (Grow.re (st := st.new (.var cs)) (b := 0) k3))
  refine Z1c rfl rfl ?_
  by_cases hm : Zr 8 v = true
  · have hc0 : chk v = 0 := by simp [chk, hm]
    rw [hc0] at hchk
    by_cases h6 : v.kind = 6
    · have d6 := Z0o (p := v.kind = 6) h6
      have he : Z41 v = [1] ++ kB v := by simp [Z41, hm, h6]
      rw [he]
      subst hcs
      repeat' first | ((with_reducible show V _ _ _ _ _ _); first | refine Z05 rfl rfl ⟨h2, g1⟩ | refine Z3 rfl ?_ | refine Zb rfl rfl ?_ | refine Ze rfl rfl ?_) | ((with_reducible show VO _ _ _ _ _ _ _); first | refine Zf rfl hg rfl ?_ | refine Z2m rfl hg rfl ?_ | refine Z8 rfl rfl hchk ?_ | refine Z6 d6 rfl ?_ | refine Z0d h1 h3.1 rfl rfl ?_ | refine Z0 rfl ?_ | refine Z9 rfl ?_ | refine Z4 ?_)
    · have d6 := Z07 (p := v.kind = 6) h6
      by_cases h7 : v.kind = 7
      · have d7 := Z0o (p := v.kind = 7) h7
        have he : Z41 v = [2] ++ kB v := by simp [Z41, hm, h7]
        rw [he]
        subst hcs
        repeat' first | ((with_reducible show V _ _ _ _ _ _); first | refine Z05 rfl rfl ⟨k2, g2⟩ | refine Z3 rfl ?_ | refine Zb rfl rfl ?_ | refine Ze rfl rfl ?_) | ((with_reducible show VO _ _ _ _ _ _ _); first | refine Zf rfl hg rfl ?_ | refine Z2m rfl hg rfl ?_ | refine Z8 rfl rfl hchk ?_ | refine Z6 d6 rfl ?_ | refine Z6 d7 rfl ?_ | refine Z0d k1 k3.1 rfl rfl ?_ | refine Z0 rfl ?_ | refine Z9 rfl ?_ | refine Z4 ?_)
      · have d7 := Z07 (p := v.kind = 7) h7
        have he : Z41 v = [] := by simp [Z41, hm, h6, h7]
        rw [he]
        subst hcs
        repeat' first | ((with_reducible show V _ _ _ _ _ _); first | refine Z05 rfl rfl ⟨.nil _, hG0⟩ | refine Z3 rfl ?_ | refine Ze rfl rfl ?_) | ((with_reducible show VO _ _ _ _ _ _ _); first | refine Zf rfl hg rfl ?_ | refine Z2m rfl hg rfl ?_ | refine Z8 rfl rfl hchk ?_ | refine Z6 d6 rfl ?_ | refine Z6 d7 rfl ?_ | refine Z0 rfl ?_ | refine Z9 rfl ?_ | refine Z4 ?_)
  · have hc0 : chk v = 20 := by simp [chk, hm]
    rw [hc0] at hchk
    have he : Z41 v = [] := by simp [Z41, hm]
    rw [he]
    subst hcs
    repeat' first | ((with_reducible show V _ _ _ _ _ _); first | refine Z05 rfl rfl ⟨.nil _, hG0⟩ | refine Z3 rfl ?_ | refine Zb rfl rfl ?_) | ((with_reducible show VO _ _ _ _ _ _ _); first | refine Z2m rfl hg rfl ?_ | refine Z8 rfl rfl hchk ?_ | refine Z0 rfl ?_ | refine Z9 rfl ?_ | refine Z4 ?_)
def BO (st : St) (p : PV) (s : List UInt8) : Prop := BV p s ∨ AccT 1 st p (Z1 s)
theorem BO.of {st : St} {p : PV} {s : List UInt8} (h : AB st p s) : BO st p s := by
  rcases h with rfl | h
  · exact .inl (.sl s true)
  · exact .inr h
theorem BO.one {st : St} {p : PV} {s : List UInt8} (h : BO st p s) : PV.one p = true := by
  rcases h with h | h
  · cases h <;> rfl
  · rcases h with ⟨rfl, _⟩ | ⟨t, g, rfl, _⟩ <;> rfl
theorem BO.keep {st st' : St} {p : PV} {s : List UInt8} (h : BO st p s) (hn : st.next ≤ st'.next) (hk : ∀ u g, u < st.next → st.get u = some (.row g 1 (Z1 s) true) → st'.get u = st.get u) : BO st' p s := by
  rcases h with h | ⟨rfl, h⟩ | ⟨t, g, rfl, h1, h2⟩
  · exact .inl h
  · exact .inr (.inl ⟨rfl, h⟩)
  · exact .inr (.inr ⟨t, g, rfl, by rw [hk t g h2 h1]; exact h1, by omega⟩)
abbrev Ent := List UInt8 × List UInt8
def EntsR (st : St) (es : List (List PV)) (l : List Ent) : Prop := es.length = l.length ∧ ∀ (j : Nat) (cs : List PV) (x : Ent), es[j]? = some cs → l[j]? = some x → ∃ p q, cs = [p, q] ∧ BO st p x.1 ∧ BO st q x.2
theorem EntsR.nil (st : St) : EntsR st [] [] := ⟨rfl, fun j cs x h => by simp at h⟩
theorem EntsR.keep {st st' : St} {es : List (List PV)} {l : List Ent} (h : EntsR st es l) (hn : st.next ≤ st'.next) (hk : ∀ u g cs, u < st.next → st.get u = some (.row g 1 cs true) → st'.get u = st.get u) : EntsR st' es l :=
  ⟨h.1, fun j cs x h1 h2 => by
    obtain ⟨p, q, e, b1, b2⟩ := h.2 j cs x h1 h2
    exact ⟨p, q, e, b1.keep hn (fun u g => hk u g _), b2.keep hn (fun u g => hk u g _)⟩⟩
theorem EntsR.snoc {st : St} {es : List (List PV)} {l : List Ent} (h : EntsR st es l) {p q : PV} {x : Ent} (h1 : BO st p x.1) (h2 : BO st q x.2) : EntsR st (es ++ [[p, q]]) (l ++ [x]) :=
  ⟨by simp [h.1], fun j cs y hj hy => by
    rcases Nat.lt_or_ge j l.length with hlt | hge
    · rw [List.getElem?_append_left (by rw [h.1]; exact hlt)] at hj
      rw [List.getElem?_append_left hlt] at hy
      exact h.2 j cs y hj hy
    · rw [List.getElem?_append_right (by rw [h.1]; exact hge), h.1] at hj
      rw [List.getElem?_append_right hge] at hy
      cases hz : j - l.length with
      | zero => rw [hz] at hj hy; simp at hj hy; subst hj hy; exact ⟨p, q, rfl, h1, h2⟩
      | succ n => rw [hz] at hj; simp at hj⟩
theorem EntsR.all {st : St} {es : List (List PV)} {l : List Ent} (h : EntsR st es l) : Z0v 2 es = true := by
  unfold Z0v
  rw [List.all_eq_true]
  intro cs hcs
  obtain ⟨j, hj⟩ := List.getElem?_of_mem hcs
  have hlt : j < l.length := by rw [← h.1]; exact (List.getElem?_eq_some_iff.1 hj).1
  obtain ⟨p, q, rfl, _⟩ := h.2 j cs l[j] hj (List.getElem?_eq_getElem hlt)
  rfl
def EA (st : St) (v : PV) (l : List Ent) : Prop := ∃ es, EntsR st es l ∧ (v = .sl es true ∨ AccT 2 st v es)
theorem EA.keep {st st' : St} {v : PV} {l : List Ent} (h : EA st v l) (hn : st.next ≤ st'.next) (hk : ∀ u, u < st.next → st'.get u = st.get u) : EA st' v l := by
  obtain ⟨es, h1, h2⟩ := h
  refine ⟨es, h1.keep hn (fun u g cs hu _ => hk u hu), ?_⟩
  rcases h2 with h2 | ⟨rfl, h2⟩ | ⟨t, g, rfl, h3, h4⟩
  · exact .inl h2
  · exact .inr (.inl ⟨rfl, h2⟩)
  · exact .inr (.inr ⟨t, g, rfl, by rw [hk t h4]; exact h3, by omega⟩)
theorem EA.app {st : St} {v : PV} {l : List Ent} (h : EA st v l) {p q : PV} {x : Ent} (h1 : BO st p x.1) (h2 : BO st q x.2) (hl : l.length ≤ 1000000000000) : ∃ v' st', Z0b st 2 48 v [[p, q]] = some (v', st') ∧ EA st' v' (l ++ [x]) ∧ Grow st v st' v' := by
  obtain ⟨es, he, hv⟩ := h
  have hs := he.snoc h1 h2
  rcases hv with rfl | hA
  · refine ⟨_, _, Z6y (by simp) (by rw [he.1]; simp only [List.length_singleton, Zs]; omega) he.all, ⟨_, hs.keep (by simp [St.new]) (fun u g cs hu _ => St.get_new_old hu), .inr (.inr ⟨st.next, 0, by simp, St.get_new, by simp [St.new]⟩)⟩, rfl, by simp [St.new], .inr ⟨st.next, rfl, Nat.le_refl _⟩, fun u hu _ => St.get_new_old hu⟩
  · obtain ⟨v', st', k1, k2, k3⟩ := hA.grow (bytes := 48) (src := [[p, q]]) (by simp) (by rw [he.1]; simp only [List.length_singleton, Zs]; omega)
    refine ⟨v', st', k1, ⟨_, hs.keep k3.2.1 (fun u g cs hu hg => k3.2.2.2 u hu (fun ht => ?_)), .inr k2⟩, k3⟩
    rcases hA with ⟨rfl, _⟩ | ⟨t, g', rfl, h3, h4⟩
    · cases ht
    · injection ht with ht
      subst ht
      rw [hg] at h3
      injection h3 with h3
      injection h3 with _ h3
      cases h3
def propEnt (elem : Val) (x : Prp) : Ent := (Zej elem.kind x ++ kB elem, [])
theorem idx_eq (elem : Val) (s : List UInt8) (l : List Prp) : idxK elem s l = (labelK elem.kind s ++ kB elem, []) :: l.map (propEnt elem) := rfl
theorem EA.tok {st : St} {v : PV} {l : List Ent} (h : EA st v l) {u : Nat} (hu : Z0n v = some u) {cs : List PV} : u < st.next ∧ st.get u ≠ some (.var cs) := by
  obtain ⟨es, he, hv⟩ := h
  rcases hv with rfl | ⟨rfl, _⟩ | ⟨t, g, rfl, h3, h4⟩
  · cases hu
  · cases hu
  · injection hu with hu
    subst hu
    exact ⟨h4, by rw [h3]; simp⟩
set_option maxHeartbeats 4000000 in
theorem idxs_loop {l : List Prp} {p : PV} (hp : LR PpC p l) (hpm : ∀ x ∈ l, (Zei x.val).length ≤ 100000000000000) {elem : Val} {ecs : List PV} (hv : VC elem ecs) (hll : l.length ≤ 100000000000) {t0 : Nat} : ∀ (rest pre : List Prp) (st : St) (v : PV) (acc : List Ent), l = pre ++ rest → EA st v acc → acc.length ≤ 1 + pre.length → st.get t0 = some (.var ecs) → t0 < st.next →
    V T (PE fun x e st' => x = .exit 0 ∧ ∃ v', e = Za4 [(7, v')] ∧ EA st' v' (acc ++ rest.map (propEnt elem))) [.code (.loop Z6d)] .normal (Za4 [(3, .ptr t0 0), (7, v), (20, p), (21, .int .i64 l.length), (22, .int .i64 pre.length)]) st := by
  obtain ⟨_, _, hbig⟩ := hp.len
  intro rest
  induction rest with
  | nil =>
    intro pre st v acc hl hA hal hg0 hlt0
    have hlt : decide ((pre.length : Int) < l.length) = false := decide_eq_false (by subst hl; simp)
    refine Zn ?_
    repeat' first | ((with_reducible show V _ _ _ _ _ _); first | refine Z3v hlt rfl rfl ?_ | refine V_out [(7, v)] rfl ⟨rfl, trivial⟩ ⟨rfl, v, rfl, by simpa using hA⟩ | refine Z3 rfl ?_) | refine Z0 rfl ?_ | refine Z4 ?_
  | cons x rest ih =>
    intro pre st v acc hl hA hal hg0 hlt0
    have hlt : decide ((pre.length : Int) < l.length) = true := decide_eq_true (by subst hl; simp; omega)
    have hpl : pre.length < l.length := by subst hl; simp
    have hxm := hpm x (by rw [hl]; simp)
    obtain ⟨cs, hat, hvc⟩ := hp.at (fun _ _ h => h.len5) (j := pre.length) (a := x) (by subst hl; simp)
    have hcl := hvc.len5
    obtain ⟨hnl, vc, rfl, hvv⟩ := hvc
    have hw : IntKind.i64.wrap ((pre.length : Int) + 1) = ((pre ++ [x]).length : Int) := by rw [Z06]; simp; omega
    have hone : (PV.str x.name :: vc).all PV.one = true := List.all_eq_true.2 (fun c hc => by
      rcases List.mem_cons.1 hc with rfl | hc
      · exact rfl
      · exact List.all_eq_true.1 hvv.one c hc)
    have hg : ((st.new (.var [.str [], .int .i64 0, .int .i64 0, .str [], .nilSl])).put st.next (.var (.str x.name :: vc))).get st.next = some (.var (.str x.name :: vc)) := St.get_put
    have hst : storeAt (st.new (.var [.str [], .int .i64 0, .int .i64 0, .str [], .nilSl])) (.ptr st.next 0) (.agg (.str x.name :: vc)) = some ((st.new (.var [.str [], .int .i64 0, .int .i64 0, .str [], .nilSl])).put st.next (.var (.str x.name :: vc))) := Z03 St.get_new (by rw [hcl]; rfl)
    have hnx : ((st.new (.var [.str [], .int .i64 0, .int .i64 0, .str [], .nilSl])).put st.next (.var (.str x.name :: vc))).next = st.next + 1 := rfl
    have hold : ∀ u, u < st.next → ((st.new (.var [.str [], .int .i64 0, .int .i64 0, .str [], .nilSl])).put st.next (.var (.str x.name :: vc))).get u = st.get u := fun u hu => by rw [St.get_put_old (by omega)]; exact St.get_new_old hu
    generalize hS : (st.new (.var [.str [], .int .i64 0, .int .i64 0, .str [], .nilSl])).put st.next (.var (.str x.name :: vc)) = S1 at hst hg hnx hold
    obtain ⟨v1, st1, h1, h2, h3⟩ := propR (kind := elem.kind) hnl (.inr ⟨x.val, vc, rfl, hvv, hxm, rfl⟩) ⟨S1.next, S1.next, S1.toks⟩ rfl
    have hpx : [6, UInt8.ofNat (elem.kind % 256).toNat] ++ kB (vStr x.name) ++ signB x.val = Zej elem.kind x := rfl
    rw [hpx] at h2
    have hkl := Z6f elem
    have hkn := Z6f (vStr x.name)
    have hsl := sign_len x.val
    have hpkl : (Zej elem.kind x).length ≤ 1000 := by rw [← hpx]; simp; omega
    have hk := keyK (Z92 hv true)
    rw [List.flatMap_cons, List.flatMap_nil, List.append_nil] at hk
    obtain ⟨v2, st2, k1, k2, k3⟩ := hk ⟨st1.next, st1.next, st1.toks⟩ v1 (Zej elem.kind x) rfl h2 (by omega)
    have gB : Grow S1 .nilSl ⟨S1.base, st1.next, st1.toks⟩ v1 := Grow.re (b := 0) h3
    have gC : Grow S1 .nilSl ⟨S1.base, st2.next, st2.toks⟩ v2 := gB.trans (Grow.re (st := ⟨S1.base, st1.next, st1.toks⟩) (b := 0) k3)
    have oB : ∀ u, u < S1.next → (⟨S1.base, st1.next, st1.toks⟩ : St).get u = S1.get u := fun u hu => gB.2.2.2 u hu (by simp [Z0n])
    have oC : ∀ u, u < S1.next → (⟨S1.base, st2.next, st2.toks⟩ : St).get u = S1.get u := fun u hu => gC.2.2.2 u hu (by simp [Z0n])
    have hAC : EA ⟨S1.base, st2.next, st2.toks⟩ v acc := hA.keep (by have := gC.2.1; omega) (fun u hu => (oC u (by omega)).trans (hold u hu))
    obtain ⟨v3, S4, a1, a2, a3⟩ := hAC.app (p := v2) (q := .nilSl) (x := propEnt elem x) (BO.of k2) (.inl .nil) (by omega)
    have ht : ∀ u, Z0n v = some u → u < st.next ∧ st.get u ≠ some (.var ecs) := fun u hu => hA.tok hu
    have o4 : ∀ u, u < S1.next → Z0n v ≠ some u → S4.get u = S1.get u := fun u hu hn => (a3.2.2.2 u (by have := gC.2.1; omega) hn).trans (oC u hu)
    have n0 : Z0n v ≠ some t0 := fun h => (ht t0 h).2 hg0
    have n9 : Z0n v ≠ some st.next := fun h => by have := (ht _ h).1; omega
    have g1 : S1.get t0 = some (.var ecs) := (hold t0 hlt0).trans hg0
    have hi := ih (pre ++ [x]) S4 v3 (acc ++ [propEnt elem x]) (by rw [hl]; simp) a2 (by simp; omega) ((o4 t0 (by omega) n0).trans g1) (by have := a3.2.1; have := gC.2.1; omega)
    have hall0 : ∀ i, ((mkC [8, 11, 12, 13, 14] [some 34, some 37, some 38, some 39, some 40] S1 [⟨S1.base, st1.next, st1.toks⟩, ⟨S1.base, st2.next, st2.toks⟩, ⟨S1.base, st2.next, st2.toks⟩, ⟨S1.base, st2.next, st2.toks⟩, S4] none).S i).get t0 = some (.var ecs) :=
      Z1b (Q := fun s => s.get t0 = some (.var ecs)) ⟨g1, (oB t0 (by omega)).trans g1, (oC t0 (by omega)).trans g1, (oC t0 (by omega)).trans g1, (oC t0 (by omega)).trans g1, (o4 t0 (by omega) n0).trans g1⟩
    have hall9 : ∀ i, ((mkC [8, 11, 12, 13, 14] [some 34, some 37, some 38, some 39, some 40] S1 [⟨S1.base, st1.next, st1.toks⟩, ⟨S1.base, st2.next, st2.toks⟩, ⟨S1.base, st2.next, st2.toks⟩, ⟨S1.base, st2.next, st2.toks⟩, S4] none).S i).get st.next = some (.var (.str x.name :: vc)) :=
      Z1b (Q := fun s => s.get st.next = some (.var (.str x.name :: vc))) ⟨hg, (oB _ (by omega)).trans hg, (oC _ (by omega)).trans hg, (oC _ (by omega)).trans hg, (oC _ (by omega)).trans hg, (o4 _ (by omega) n9).trans hg⟩
    have hvl := hvv.len4
    have hlw : 1 + 4 ≤ (PV.str x.name :: vc).length := by simp [hvl]
    have hdw : ((PV.str x.name :: vc).drop 1).take 4 = vc := by
      rw [List.drop_one, List.tail_cons]
      exact List.take_of_length_le (by omega)
    have hok2 : okEls 2 [[v2, .nilSl]] = true := by
      have h1 := (BO.of k2).one
      have h0 : PV.one .nilSl = true := rfl
      simp only [okEls, List.all_cons, List.all_nil, h1, h0]
      rfl
    have hb1 : ∀ (look : Nat → Option Tok) (e : EC), e.get 37 = some v2 → Zg look e (.build [.nilSl, .nilSl] [(0, (1, .t 37))]) = some (.agg [v2, .nilSl]) := fun look e he => by
      rcases k2 with rfl | ⟨rfl, _⟩ | ⟨t, g, rfl, _⟩ <;> (simp only [Zg, Z3b, Zbj, Opd.get, he]; rfl)
    have hb2 : ∀ (look : Nat → Option Tok) (e : EC), e.get 38 = some (.agg [v2, .nilSl]) → Zg look e (.buildSl 2 [[.nilSl, .nilSl]] [(0, .t 38)]) = some (.sl [[v2, .nilSl]] true) := fun look e he => by
      rcases k2 with rfl | ⟨rfl, _⟩ | ⟨t, g, rfl, _⟩ <;> (simp only [Zg, Z3b, Zbj, Opd.get, he]; rfl)
    obtain ⟨s1, q1, hc1, hp1⟩ := hvv.form2
    obtain ⟨s2, q2, hc2, hp2⟩ := hv.form2
    have hel := hv.len4
    clear hvv hv
    subst hc1 hc2
    refine Zn ?_
    repeat' first | ((with_reducible show V _ _ _ _ _ _); first | refine Z27 hlt rfl rfl ?_ | refine V_C (mkC [8, 11, 12, 13, 14] [some 34, some 37, some 38, some 39, some 40] S1 [⟨S1.base, st1.next, st1.toks⟩, ⟨S1.base, st2.next, st2.toks⟩, ⟨S1.base, st2.next, st2.toks⟩, ⟨S1.base, st2.next, st2.toks⟩, S4] none) rfl rfl ?_ | refine Zcb (V_re rfl hi ⟨rfl, rfl, rfl, rfl, Z4b hw, trivial⟩) ?_ | refine Z3 rfl ?_) | ((with_reducible show VO _ _ _ _ _ _ _); first | refine Zh rfl rfl hat ?_ | refine Zp rfl rfl hone hcl rfl hst ?_ | refine Z0 rfl ?_ | refine Z9 rfl ?_ | refine Z4 ?_) | ((with_reducible show Go.AM.VC _ _ _ _ _ _ _ _ _ _); first | refine Z4j rfl rfl rfl rfl rfl rfl rfl rfl h1 h3.1 rfl ?_ | refine Z4j rfl rfl rfl rfl rfl rfl rfl rfl k1 k3.1 rfl ?_ | refine Z60 rfl rfl rfl hall0 rfl ?_ | refine Z60 rfl rfl rfl hall9 rfl ?_ | refine Z43 rfl rfl rfl hall0 hel ?_ | refine C_loadW rfl rfl rfl hall9 hlw hdw ?_ | refine Ze5 rfl rfl rfl rfl rfl rfl rfl rfl rfl rfl hok2 (by decide) (by decide) a1 ?_ | refine C_move rfl rfl rfl rfl rfl rfl rfl (hb1 _ _ rfl) ?_ | refine C_move rfl rfl rfl rfl rfl rfl rfl (hb2 _ _ rfl) ?_ | refine Z88 rfl rfl (fun _ => rfl) ?_ | refine C_nil rfl rfl ?_)
    rintro y e st' ⟨rfl, b', rfl, r1⟩
    exact ⟨rfl, b', rfl, by rw [List.map_cons, ← List.singleton_append (l := rest.map _), ← List.append_assoc]; exact r1⟩
theorem BO.view {st : St} {p : PV} {s : List UInt8} (h : BO st p s) : ∃ q, View true st.get p q ∧ BV q s := by
  rcases h with h | h
  · exact ⟨p, h.pl.view, h⟩
  · exact AB.view (.inr h)
theorem Zh3 {α : Type} {P : Nat → α → Prop} : ∀ {n : Nat}, (∀ j, j < n → ∃ d, P j d) → ∃ ys : List α, ys.length = n ∧ ∀ (j : Nat) (d : α), ys[j]? = some d → P j d
  | 0, _ => ⟨[], rfl, fun j d h => by simp at h⟩
  | n + 1, h => by
    obtain ⟨ys, h1, h2⟩ := Zh3 (n := n) (fun j hj => h j (by omega))
    obtain ⟨d, hd⟩ := h n (by omega)
    refine ⟨ys ++ [d], by simp [h1], fun j e he => ?_⟩
    rcases Nat.lt_or_ge j n with hlt | hge
    · rw [List.getElem?_append_left (by omega)] at he
      exact h2 j e he
    · rw [List.getElem?_append_right (by omega), h1] at he
      have hj : j = n := by
        rcases Nat.lt_or_ge n j with h3 | h3
        · have : ([d] : List α)[j - n]? = none := List.getElem?_eq_none (by simp; omega)
          rw [this] at he
          cases he
        · omega
      subst hj
      simp at he
      subst he
      exact hd
theorem EntsR.view {st : St} {es : List (List PV)} {l : List Ent} (h : EntsR st es l) : ∃ ys : List (List PV), ys.length = l.length ∧ (∀ (j : Nat) (cs ds : List PV), es[j]? = some cs → ys[j]? = some ds → cs.length = ds.length ∧ ∀ (i : Nat) (c d : PV), cs[i]? = some c → ds[i]? = some d → View true st.get c d) ∧ ∀ (j : Nat) (x : Ent) (ds : List PV), l[j]? = some x → ys[j]? = some ds → EnC x ds := by
  have key : ∀ (j : Nat), j < l.length → ∃ ds : List PV, ∀ (cs : List PV) (x : Ent), es[j]? = some cs → l[j]? = some x → EnC x ds ∧ cs.length = ds.length ∧ ∀ (i : Nat) (c d : PV), cs[i]? = some c → ds[i]? = some d → View true st.get c d := by
    intro j hj
    have hje : j < es.length := by rw [h.1]; exact hj
    obtain ⟨p, q, e, b1, b2⟩ := h.2 j es[j] l[j] (List.getElem?_eq_getElem hje) (List.getElem?_eq_getElem hj)
    obtain ⟨p', v1, c1⟩ := b1.view
    obtain ⟨q', v2, c2⟩ := b2.view
    refine ⟨[p', q'], fun cs x h1 h2 => ?_⟩
    rw [List.getElem?_eq_getElem hje] at h1
    rw [List.getElem?_eq_getElem hj] at h2
    injection h1 with h1
    injection h2 with h2
    rw [← h1, ← h2, e]
    refine ⟨⟨p', q', rfl, c1, c2⟩, rfl, fun i c d hc hd => ?_⟩
    match i with
    | 0 => simp at hc hd; subst hc hd; exact v1
    | 1 => simp at hc hd; subst hc hd; exact v2
    | i + 2 => simp at hc
  obtain ⟨ys, y1, y2⟩ := Zh3 key
  refine ⟨ys, y1, fun j cs ds h1 h2 => ?_, fun j x ds h1 h2 => ?_⟩
  · have hj : j < l.length := by rw [← h.1]; exact (List.getElem?_eq_some_iff.1 h1).1
    exact (y2 j ds h2 cs l[j] h1 (List.getElem?_eq_getElem hj)).2
  · have hj : j < es.length := by rw [h.1]; exact (List.getElem?_eq_some_iff.1 h1).1
    exact (y2 j ds h2 (es[j]) x (List.getElem?_eq_getElem hj) h1).1
theorem EA.view {st : St} {v : PV} {l : List Ent} (h : EA st v l) (hl : l.length ≤ 140737488355328) : ∃ q, View true st.get v q ∧ LR EnC q l := by
  obtain ⟨es, he, hv⟩ := h
  obtain ⟨ys, y1, y2, y3⟩ := he.view
  rcases hv with rfl | ⟨rfl, h0⟩ | ⟨t, g, rfl, h3, h4⟩
  · exact ⟨.sl ys true, .sl es ys true (by rw [he.1, y1]) (fun j cs ds h1 h2 => (y2 j cs ds h1 h2).1) (fun j cs ds i c d h1 h2 h5 h6 => (y2 j cs ds h1 h2).2 i c d h5 h6), .inr ⟨ys, true, rfl, hl, y1, y3⟩⟩
  · subst h0
    have : l = [] := List.length_eq_zero_iff.1 he.1.symm
    exact ⟨.nilSl, .nilSl, .inl ⟨rfl, this⟩⟩
  · exact ⟨.sl ys false, view_rows h3 (by rw [he.1, y1]) y2, .inr ⟨ys, false, rfl, hl, y1, y3⟩⟩
theorem build_kv {v2 w : PV} {s t : List UInt8} {st : St} (k2 : AB st v2 s) : ∀ (look : Nat → Option Tok) (e : EC) (i : Nat), e.get i = some v2 → Zg look e (.build [.nilSl, .nilSl] [(0, (1, .t i))]) = some (.agg [v2, .nilSl]) := fun look e i he => by
  rcases k2 with rfl | ⟨rfl, _⟩ | ⟨t, g, rfl, _⟩ <;> (simp only [Zg, Z3b, Zbj, Opd.get, he]; rfl)
theorem buildSl_kv {v2 : PV} {s : List UInt8} {st : St} (k2 : AB st v2 s) : ∀ (look : Nat → Option Tok) (e : EC) (i : Nat), e.get i = some (.agg [v2, .nilSl]) → Zg look e (.buildSl 2 [[.nilSl, .nilSl]] [(0, .t i)]) = some (.sl [[v2, .nilSl]] true) := fun look e i he => by
  rcases k2 with rfl | ⟨rfl, _⟩ | ⟨t, g, rfl, _⟩ <;> (simp only [Zg, Z3b, Zbj, Opd.get, he]; rfl)
set_option maxHeartbeats 4000000 in
theorem Zea {elem : Val} {ecs : List PV} {s : List UInt8} {l : List Prp} {p : PV} (hv : VC elem ecs) (hs : s.length ≤ 140737488355328) (hp : LR PpC p l) (hpm : ∀ x ∈ l, (Zei x.val).length ≤ 100000000000000) (hll : l.length ≤ 100000000000) : ∃ q, T.R (.call Zg9 [.agg ecs, .str s, p] q) ∧ LR EnC q (idxK elem s l) := by
  obtain ⟨e1, e2, e3⟩ := hp.len
  have hkl := Z6f elem
  have hks := Z6f (vStr s)
  have hg0 : (emptySt.new (.var ecs)).get 0 = some (.var ecs) := rfl
  generalize hS : emptySt.new (.var ecs) = S1 at hg0
  have hS1n : S1.next = 1 := by rw [← hS]; rfl
  obtain ⟨v1, st1, h1, h2, h3⟩ := labelR (kind := elem.kind) (.inr ⟨s, rfl, hs, rfl⟩) (by omega) ⟨S1.next, S1.next, S1.toks⟩ rfl
  have hk := keyK (Z92 hv true)
  rw [List.flatMap_cons, List.flatMap_nil, List.append_nil] at hk
  obtain ⟨v2, st2, k1, k2, k3⟩ := hk ⟨st1.next, st1.next, st1.toks⟩ v1 _ rfl h2 (by simp; omega)
  have gB : Grow S1 .nilSl ⟨S1.base, st1.next, st1.toks⟩ v1 := Grow.re (b := 0) h3
  have gC : Grow S1 .nilSl ⟨S1.base, st2.next, st2.toks⟩ v2 := gB.trans (Grow.re (st := ⟨S1.base, st1.next, st1.toks⟩) (b := 0) k3)
  have oB := gB.2.2.2 0 (by omega) (by simp [Z0n])
  have oC := gC.2.2.2 0 (by omega) (by simp [Z0n])
  have hall : ∀ i, ((mkC [4, 7] [some 14, some 17] S1 [⟨S1.base, st1.next, st1.toks⟩, ⟨S1.base, st2.next, st2.toks⟩] none).S i).get 0 = some (.var ecs) :=
    Z1b (Q := fun s => s.get 0 = some (.var ecs)) ⟨hg0, oB.trans hg0, oC.trans hg0⟩
  have hEA : EA ⟨S1.base, st2.next, st2.toks⟩ (.sl [[v2, .nilSl]] true) [(labelK elem.kind s ++ kB elem, [])] := ⟨_, (EntsR.nil _).snoc (p := v2) (q := .nilSl) (x := (labelK elem.kind s ++ kB elem, [])) (BO.of k2) (.inl .nil), .inl rfl⟩
  have hlp := idxs_loop hp hpm hv hll (t0 := 0) l [] ⟨S1.base, st2.next, st2.toks⟩ (.sl [[v2, .nilSl]] true) [(labelK elem.kind s ++ kB elem, [])] rfl hEA (by simp) (oC.trans hg0) (by have := gC.2.1; show 0 < st2.next; have : S1.next ≤ st2.next := this; omega)
  obtain ⟨s2, q2, hc2, hp2⟩ := hv.form2
  have hel := hv.len4
  have b1 := build_kv (w := .nilSl) (t := []) k2
  have b2 := buildSl_kv k2
  clear hv
  subst hc2
  refine Z6w rfl rfl ?_
  repeat' first | ((with_reducible show V _ _ _ _ _ _); first | refine V_C (mkC [4, 7] [some 14, some 17] S1 [⟨S1.base, st1.next, st1.toks⟩, ⟨S1.base, st2.next, st2.toks⟩] none) hS.symm rfl ?_ | refine Zcc rfl hlp ⟨rfl, rfl, rfl, rfl, rfl, trivial⟩ ?_ | refine Z3 rfl ?_) | ((with_reducible show VO _ _ _ _ _ _ _); first | refine Z0r rfl e1 e2 ?_ | refine Z0 rfl ?_ | refine Z9 rfl ?_ | refine Z4 ?_) | ((with_reducible show Go.AM.VC _ _ _ _ _ _ _ _ _ _); first | refine Z4j rfl rfl rfl rfl rfl rfl rfl rfl h1 h3.1 rfl ?_ | refine Z4j rfl rfl rfl rfl rfl rfl rfl rfl k1 k3.1 rfl ?_ | refine Z60 rfl rfl rfl hall rfl ?_ | refine Z43 rfl rfl rfl hall hel ?_ | refine Z88 rfl rfl (fun _ => b1 _ _ _ rfl) ?_ | refine Z88 rfl rfl (fun _ => b2 _ _ _ rfl) ?_ | refine Z88 rfl rfl (fun _ => rfl) ?_ | refine C_nil rfl rfl ?_)
  rintro x e st' ⟨rfl, v', rfl, r1⟩
  obtain ⟨q, w1, w2⟩ := r1.view (by simp; omega)
  repeat' first | refine Z5z rfl rfl w1 ?_ | refine Z3 rfl ?_ | refine Z0 rfl ?_ | refine Z4 ?_
  exact w2
end Go.Proofs.YtgdjnlopdpjnaaaDoor
