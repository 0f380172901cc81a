/- rambleref25.Parse. -/
import Derived.Test.YtbeaalkfakjoiaaDoorScrT
import Derived.Test.YtbeaalkfakjoiaaDoorScrG
set_option linter.unusedVariables false
set_option linter.unusedSimpArgs false
namespace Go.Proofs.YtbeaalkfakjoiaaDoor
open Go Go.AM Go.RowKit
section
variable {T : Tb} {Q : Post} {k : List Fr} {ρ : EC} {st S' : St} {l : List POp} {kill : List Nat}
theorem O_allocS {d : Option Nat} {cs : List PV} (hS : S' = st.new (.var cs)) (h : VO T Q l kill k (ρ.sets d (.ptr st.next 0)) S') : VO T Q (⟨d, none, .alloc cs⟩ :: l) kill k ρ st := by
  subst hS
  exact O_stepL rfl h
theorem O_storeA {a x : Opd} {t n : Nat} {cs cs0 : List PV} (hg : st.get t = some (.var cs0)) (hS : S' = st.put t (.var cs)) (h1 : cs.all PV.one = true) (hl : cs.length = n) (h0 : cs0.length = n) (hn : Nat.blt 0 n = true) (ha : a.get ρ = some (.ptr t 0)) (hx : x.get ρ = some (.agg cs)) (h : VO T Q l kill k (ρ.sets none (.tuple [])) S') : VO T Q (⟨none, none, .store n a x⟩ :: l) kill k ρ st := by
  subst hS
  exact O_storeV ha hx h1 hl hn (storeAt_whole hg (by rw [h0, hl])) h
theorem O_loadA {d : Option Nat} {a : Opd} {t n : Nat} {cs : List PV} (hg : st.get t = some (.var cs)) (hl : cs.length = n) (ha : a.get ρ = some (.ptr t 0)) (h : VO T Q l kill k (ρ.sets d (.agg cs)) st) : VO T Q (⟨d, none, .load n true a⟩ :: l) kill k ρ st :=
  O_step (by
    simp only [stepQ, get1, ha, loadAt, behind, hg, Option.bind_some]
    rw [← hl]
    simp [slice?]) h
end
theorem O_bin {T : Tb} {Q : Post} {k : List Fr} {ρ : EC} {st : St} {l : List POp} {kill : List Nat} {d : Option Nat} {op : BinOp} {x y : Opd} {kk : IntKind} {m n : Int} {p : PV} (he : binInt op kk m n = some p) (hx : x.get ρ = some (.int kk m)) (hy : y.get ρ = some (.int kk n)) (h : VO T Q l kill k (ρ.sets d p) st) : VO T Q (⟨d, none, .bin op x y⟩ :: l) kill k ρ st :=
  O_step (by
    simp only [stepQ, get2, hx, hy, binOp?]
    rw [if_pos (.inr (.inr trivial))]
    exact he) h
theorem lt_t {m n : Int} (h : m < n) : binInt .lss .i64 m n = some (.bool true) := congrArg some (dec_is h)
theorem lt_f {m n : Int} (h : ¬ m < n) : binInt .lss .i64 m n = some (.bool false) := congrArg some (dec_not h)
structure PS (st : St) (h : Int × Int × Int) (v : PV) (cs : List Cm) : Prop where
  next : 2 ≤ st.next
  res : st.get 0 = some (.var z4)
  scr : st.get 1 = some (.var [.int .i64 h.1, .int .i64 h.2.1, .int .i64 h.2.2, v])
  acc : AccT 5 st v (cs.map cells)
  tok : ∀ t, tokOf v = some t → 2 ≤ t
theorem PS.one {st : St} {h : Int × Int × Int} {v : PV} {cs : List Cm} (p : PS st h v cs) : PV.one v = true ∧ v.cells = [v] ∧ lenOf v = some cs.length ∧ isStr v = false := by
  rcases p.acc with ⟨rfl, h0⟩ | ⟨t, g, rfl, _, _⟩
  · have : cs = [] := by simpa using h0
    subst this
    exact ⟨rfl, rfl, rfl, rfl⟩
  · exact ⟨rfl, rfl, by simp [lenOf], rfl⟩
theorem PS.step {st : St} {h : Int × Int × Int} {v : PV} {cs : List Cm} (p : PS st h v cs) (c : Cm) (hl : cs.length ≤ 2000) :
    ∃ (S1 S2 S3 S4 : St) (v' : PV), S1 = st.new (.var z5) ∧ S1.get st.next = some (.var z5) ∧ S2 = S1.put st.next (.var (cells c)) ∧ S2.get st.next = some (.var (cells c)) ∧ S2.get 1 = some (.var [.int .i64 h.1, .int .i64 h.2.1, .int .i64 h.2.2, v]) ∧
      appendTo S2 5 48 v [cells c] = some (v', S3) ∧ v'.cells = [v'] ∧ PV.one v' = true ∧ S3.get 1 = some (.var [.int .i64 h.1, .int .i64 h.2.1, .int .i64 h.2.2, v]) ∧ S4 = S3.put 1 (.var [.int .i64 h.1, .int .i64 h.2.1, .int .i64 h.2.2, v']) ∧ PS S4 h v' (cs ++ [c]) := by
  have hn := p.next
  have g1 : (st.new (.var z5)).get st.next = some (.var z5) := St.get_new
  have old : ∀ u, u < st.next → ((st.new (.var z5)).put st.next (.var (cells c))).get u = st.get u := fun u hu => by rw [St.get_put_old (by omega), St.get_new_old hu]
  have nx : ((st.new (.var z5)).put st.next (.var (cells c))).next = st.next + 1 := rfl
  have a2 : AccT 5 ((st.new (.var z5)).put st.next (.var (cells c))) v (cs.map cells) := by
    rcases p.acc with ⟨rfl, h0⟩ | ⟨t, g, rfl, hg, hlt⟩
    · exact .inl ⟨rfl, h0⟩
    · exact .inr ⟨t, g, rfl, by rw [old t hlt]; exact hg, by rw [nx]; omega⟩
  obtain ⟨v', S3, k1, k2, k3⟩ := a2.grow (bytes := 48) (src := [cells c]) (by simp) (by simp only [List.length_map, List.length_singleton, roomLen]; omega)
  obtain ⟨m1, m2, m3, m4⟩ := k3
  have hv1 : tokOf v ≠ some 1 := fun e => by have := p.tok 1 e; omega
  have hv0 : tokOf v ≠ some 0 := fun e => by have := p.tok 0 e; omega
  have e1 : S3.get 1 = st.get 1 := by rw [m4 1 (by rw [nx]; omega) hv1, old 1 (by omega)]
  have e0 : S3.get 0 = st.get 0 := by rw [m4 0 (by rw [nx]; omega) hv0, old 0 (by omega)]
  have k2' : AccT 5 S3 v' ((cs ++ [c]).map cells) := by
    have hf : (cs ++ [c]).map cells = cs.map cells ++ [cells c] := by simp
    rw [hf]
    exact k2
  have ht : ∀ t, tokOf v' = some t → 2 ≤ t := fun t et => by
    rcases m3 with m3 | ⟨n, m3, m5⟩
    · exact p.tok t (by rw [← m3]; exact et)
    · rw [m3] at et
      injection et with et
      rw [nx] at m5
      omega
  rcases k2' with ⟨rfl, h0⟩ | ⟨t, g, rfl, hg, hlt⟩
  · simp at h0
  · have h2t := ht t rfl
    refine ⟨_, _, S3, _, _, rfl, g1, rfl, St.get_put, by rw [old 1 (by omega)]; exact p.scr, k1, rfl, rfl, by rw [e1]; exact p.scr, rfl, ⟨by show 2 ≤ S3.next; rw [nx] at m2; omega, by rw [St.get_put_old (by omega), e0]; exact p.res, St.get_put, .inr ⟨t, g, rfl, by rw [St.get_put_old (by omega)]; exact hg, hlt⟩, ht⟩⟩
theorem buildC (c : Cm) {look : Nat → Option Tok} {e : EC} {i : Nat} (hi : e.get i = some (.agg (cells c))) : stepQ look e (.buildSl 5 [z5] [(0, .t i)]) = some (.sl [cells c] true) := by
  simp only [stepQ, elsOf, Opd.get, hi]
  rfl
set_option maxHeartbeats 4000000 in
set_option maxRecDepth 100000 in
theorem rp_body {t : List UInt8} (htl : t.length ≤ 1000000000) {ls : List (List UInt8)} {p : PV} (hp : LV sc p ls) (hlen : ls.length ≤ 1000000000) {i : Nat} (hi1 : 1 ≤ i) (hnl : i < ls.length - 1) {x : List UInt8} (hx' : ls[i]? = some x) (c : Cm) (isb : Bool) (hcall : T.R (.call n_rambleref25_ParseLine [.str x] (.tuple [.agg (cells c), .bool isb])))
    {st : St} {h : Int × Int × Int} {v : PV} {cs : List Cm} (ps : PS st h v cs) (hcl : cs.length ≤ 1024) (lb : Bool) (hlb : lb = decide (cs.length < 1024)) {Q : EX → EC → St → Prop}
    (hc : (true && (isb && lb)) = true → ∀ S4 v', PS S4 h v' (cs ++ [c]) → V T (PE Q) [.code (.loop lp_rambleref25_Parse_0)] .normal (ecOf [(0, .str t), (2, .ptr 0 0), (5, .ptr 1 0), (6, p), (7, .int .i64 ((i + 1 : Nat) : Int))]) S4)
    (hs : (true && (isb && lb)) = false → ∀ S5, S5.get 0 = some (.var z4) → Q .ret (ecOf [(2, .ptr 0 0), (3, .int .i64 ((i + 1 : Nat) : Int)), (4, .int .i64 251)]) S5) :
    V T (PE Q) [.code (.loop lp_rambleref25_Parse_0)] .normal (ecOf [(0, .str t), (2, .ptr 0 0), (5, .ptr 1 0), (6, p), (7, .int .i64 (i : Int))]) st := by
  obtain ⟨S1, S2, S3, S4, v', s1, g1, s2, g2, g3, k1, u1, u2, g5, s4, p4⟩ := ps.step c (by omega)
  obtain ⟨o1, o2, o3, o4⟩ := ps.one
  have g4 := g3
  have hlt : i < ls.length := by omega
  have e1 : binInt .lss .i64 (i : Int) (ls.length : Int) = some (.bool true) := lt_t (by omega)
  have hx : ls[(i : Int).toNat]? = some x := hx'
  have hw1 : binInt .sub .i64 (ls.length : Int) 1 = some (.int .i64 ((ls.length - 1 : Nat) : Int)) := congrArg some (int_is (by rw [wrap_i64]; omega))
  have hw2 : binInt .add .i64 (i : Int) 1 = some (.int .i64 ((i + 1 : Nat) : Int)) := congrArg some (int_is (by rw [wrap_i64]; omega))
  have e2 : binInt .lss .i64 (i : Int) ((ls.length - 1 : Nat) : Int) = some (.bool true) := lt_t (by omega)
  have e3 : binInt .lss .i64 (cs.length : Int) 1024 = some (.bool lb) := by
    rw [hlb]
    refine congrArg some (congrArg PV.bool ?_)
    rw [Bool.eq_iff_iff, decide_eq_true_eq, decide_eq_true_eq]
    omega
  have en : binInt .eql .i64 (i : Int) 0 = some (.bool false) := congrArg some (dec_not (by omega))
  have plc : Pl (.agg (cells c)) := pl_cells c
  subst s4
  clear hlb
  refine V_unroll ?_
  cases isb <;> cases lb
  all_goals repeat' first | ((with_reducible show V _ _ _ _ _ _); first | refine V_re rfl (hc rfl _ v' p4) ⟨rfl, rfl, rfl, rfl, rfl, trivial⟩ | refine V_out [(2, .ptr 0 0), (3, .int .i64 ((i + 1 : Nat) : Int)), (4, .int .i64 251)] rfl ⟨rfl, rfl, rfl, trivial⟩ (hs rfl _ St.get_put) | refine V_O rfl ?_ | refine V_cT rfl rfl ?_ | refine V_cF rfl rfl ?_ | refine V_cEq rfl rfl ?_ | refine V_cNe rfl rfl ?_ | refine V_cB rfl rfl (fun _ => ?_) (fun _ => ?_) | refine V_fA rfl rfl ?_ | refine V_fAN rfl rfl ?_ | refine V_D rfl ?_) | ((with_reducible show VO _ _ _ _ _ _ _); first | refine O_allocS s1 ?_ | refine O_storeA g1 s2 rfl rfl rfl rfl rfl rfl ?_ | refine O_loadV rfl g3 rfl ?_ | refine O_loadV rfl g4 rfl ?_ | refine O_loadA g2 rfl rfl ?_ | refine O_step (buildC c rfl) ?_ | refine O_append rfl rfl rfl rfl (by decide) (by decide) k1 ?_ | refine O_storeP rfl rfl u1 u2 g5 (Nat.le_refl 4) rfl ?_ | refine O_storeA p4.res rfl rfl rfl rfl rfl rfl rfl ?_ | refine O_lenL rfl hp ?_ | refine O_lenO rfl o3 o4 ?_ | refine O_bin hw1 rfl rfl ?_ | refine O_bin e1 rfl rfl ?_ | refine O_bin e2 rfl rfl ?_ | refine O_bin e3 rfl rfl ?_ | refine O_bin hw2 rfl rfl ?_ | refine O_idxL x rfl hp rfl (by omega) hx rfl ?_ | refine O_cA rfl rfl hcall ?_ | refine O_bin en rfl rfl ?_ | refine O_step rfl ?_ | refine O_stepL rfl ?_ | refine O_nil' ?_ | refine O_gT' rfl ?_ | refine O_gU' rfl ?_ | refine O_gF' rfl rfl ?_ | refine O_gEq rfl ?_ | refine O_gNe rfl ?_ | refine O_gS rfl (fun _ => ?_) (fun _ => ?_)) | ((with_reducible show VD _ _ _ _ _ _ _); first | refine D_step rfl ?_ | refine D_nil' ?_ | refine D_gT' rfl ?_ | refine D_gU' rfl ?_ | refine D_gF' rfl rfl ?_ | refine D_gS rfl (fun _ => ?_) (fun _ => ?_))
set_option maxHeartbeats 4000000 in
set_option maxRecDepth 100000 in
theorem rp_last {t : List UInt8} (htl : t.length ≤ 1000000000) {ls : List (List UInt8)} {p : PV} (hp : LV sc p ls) (hlen : ls.length ≤ 1000000000) {i : Nat} (hi1 : 1 ≤ i) (hnl : i = ls.length - 1) {d : UInt8} (hd : t[t.length - 1]? = some d) {x : List UInt8} (hx' : ls[i]? = some x) (c : Cm) (isb : Bool) (hcall : T.R (.call n_rambleref25_ParseLine [.str x] (.tuple [.agg (cells c), .bool isb])))
    {st : St} {h : Int × Int × Int} {v : PV} {cs : List Cm} (ps : PS st h v cs) (hcl : cs.length ≤ 1024) (okb : Bool) (hokb : okb = decide (d = 10)) (lb : Bool) (hlb : lb = decide (cs.length < 1024)) {Q : EX → EC → St → Prop}
    (hc : (okb && (isb && lb)) = true → ∀ S4 v', PS S4 h v' (cs ++ [c]) → V T (PE Q) [.code (.loop lp_rambleref25_Parse_0)] .normal (ecOf [(0, .str t), (2, .ptr 0 0), (5, .ptr 1 0), (6, p), (7, .int .i64 ((i + 1 : Nat) : Int))]) S4)
    (hs : (okb && (isb && lb)) = false → ∀ S5, S5.get 0 = some (.var z4) → Q .ret (ecOf [(2, .ptr 0 0), (3, .int .i64 ((i + 1 : Nat) : Int)), (4, .int .i64 251)]) S5) :
    V T (PE Q) [.code (.loop lp_rambleref25_Parse_0)] .normal (ecOf [(0, .str t), (2, .ptr 0 0), (5, .ptr 1 0), (6, p), (7, .int .i64 (i : Int))]) st := by
  obtain ⟨S1, S2, S3, S4, v', s1, g1, s2, g2, g3, k1, u1, u2, g5, s4, p4⟩ := ps.step c (by omega)
  obtain ⟨o1, o2, o3, o4⟩ := ps.one
  have g4 := g3
  have hlt : i < ls.length := by omega
  have e1 : binInt .lss .i64 (i : Int) (ls.length : Int) = some (.bool true) := lt_t (by omega)
  have hx : ls[(i : Int).toNat]? = some x := hx'
  have hw1 : binInt .sub .i64 (ls.length : Int) 1 = some (.int .i64 ((ls.length - 1 : Nat) : Int)) := congrArg some (int_is (by rw [wrap_i64]; omega))
  have hw2 : binInt .add .i64 (i : Int) 1 = some (.int .i64 ((i + 1 : Nat) : Int)) := congrArg some (int_is (by rw [wrap_i64]; omega))
  have e2 : binInt .lss .i64 (i : Int) ((ls.length - 1 : Nat) : Int) = some (.bool false) := lt_f (by omega)
  have e3 : binInt .lss .i64 (cs.length : Int) 1024 = some (.bool lb) := by
    rw [hlb]
    refine congrArg some (congrArg PV.bool ?_)
    rw [Bool.eq_iff_iff, decide_eq_true_eq, decide_eq_true_eq]
    omega
  have en : binInt .eql .i64 (i : Int) 0 = some (.bool false) := congrArg some (dec_not (by omega))
  have plc : Pl (.agg (cells c)) := pl_cells c
  have hw3 : binInt .sub .i64 (t.length : Int) 1 = some (.int .i64 ((t.length - 1 : Nat) : Int)) := congrArg some (int_is (by
    have := (List.getElem?_eq_some_iff.1 hd).1
    rw [wrap_i64]
    omega))
  have hch : t[((t.length - 1 : Nat) : Int).toNat]? = some d := hd
  have e4 : binInt .eql .u8 (d.toNat : Int) 10 = some (.bool okb) := by
    rw [hokb]
    refine congrArg some (congrArg PV.bool ?_)
    rw [Bool.eq_iff_iff, decide_eq_true_eq, decide_eq_true_eq]
    constructor
    · intro e
      exact UInt8.toNat_inj.1 (by have : (10 : UInt8).toNat = 10 := rfl; omega)
    · rintro rfl
      rfl
  subst s4
  clear hlb hokb
  refine V_unroll ?_
  cases isb <;> cases lb <;> cases okb
  all_goals repeat' first | ((with_reducible show V _ _ _ _ _ _); first | refine V_re rfl (hc rfl _ v' p4) ⟨rfl, rfl, rfl, rfl, rfl, trivial⟩ | refine V_out [(2, .ptr 0 0), (3, .int .i64 ((i + 1 : Nat) : Int)), (4, .int .i64 251)] rfl ⟨rfl, rfl, rfl, trivial⟩ (hs rfl _ St.get_put) | refine V_O rfl ?_ | refine V_cT rfl rfl ?_ | refine V_cF rfl rfl ?_ | refine V_cEq rfl rfl ?_ | refine V_cNe rfl rfl ?_ | refine V_cB rfl rfl (fun _ => ?_) (fun _ => ?_) | refine V_fA rfl rfl ?_ | refine V_fAN rfl rfl ?_ | refine V_D rfl ?_) | ((with_reducible show VO _ _ _ _ _ _ _); first | refine O_allocS s1 ?_ | refine O_storeA g1 s2 rfl rfl rfl rfl rfl rfl ?_ | refine O_loadV rfl g3 rfl ?_ | refine O_loadV rfl g4 rfl ?_ | refine O_loadA g2 rfl rfl ?_ | refine O_step (buildC c rfl) ?_ | refine O_append rfl rfl rfl rfl (by decide) (by decide) k1 ?_ | refine O_storeP rfl rfl u1 u2 g5 (Nat.le_refl 4) rfl ?_ | refine O_storeA p4.res rfl rfl rfl rfl rfl rfl rfl ?_ | refine O_lenL rfl hp ?_ | refine O_lenO rfl o3 o4 ?_ | refine O_bin hw1 rfl rfl ?_ | refine O_bin e1 rfl rfl ?_ | refine O_bin e2 rfl rfl ?_ | refine O_bin e3 rfl rfl ?_ | refine O_bin hw2 rfl rfl ?_ | refine O_idxL x rfl hp rfl (by omega) hx rfl ?_ | refine O_cA rfl rfl hcall ?_ | refine O_bin en rfl rfl ?_ | refine O_bin hw3 rfl rfl ?_ | refine O_chr d rfl rfl (by omega) hch ?_ | refine O_bin e4 rfl rfl ?_ | refine O_step rfl ?_ | refine O_stepL rfl ?_ | refine O_nil' ?_ | refine O_gT' rfl ?_ | refine O_gU' rfl ?_ | refine O_gF' rfl rfl ?_ | refine O_gEq rfl ?_ | refine O_gNe rfl ?_ | refine O_gS rfl (fun _ => ?_) (fun _ => ?_)) | ((with_reducible show VD _ _ _ _ _ _ _); first | refine D_step rfl ?_ | refine D_nil' ?_ | refine D_gT' rfl ?_ | refine D_gU' rfl ?_ | refine D_gF' rfl rfl ?_ | refine D_gS rfl (fun _ => ?_) (fun _ => ?_))
end Go.Proofs.YtbeaalkfakjoiaaDoor
