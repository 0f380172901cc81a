/- How many steps there are, how deep; whether they may be: parse.count, parse.Check. -/
import Derived.Test.YtinojffgmgjblaaGreatDoorStpC
set_option linter.unusedVariables false
set_option linter.unusedSimpArgs false
namespace Go.Proofs.YtinojffgmgjblaaGreatDoor
open Go Go.AM Go.RowKit
def stepB1 : Stp → Bool
  | .mk op names nums preds vals subs => stepB op names nums preds vals subs.length
mutual
def okS : Stp → Bool
  | .mk op names nums preds vals subs => stepB op names nums preds vals subs.length && okLL subs
def okL1 : List Stp → Bool
  | [] => true
  | s :: r => okS s && okL1 r
def okLL : List (List Stp) → Bool
  | [] => true
  | l :: r => (!l.isEmpty && okL1 l) && okLL r
end
def okL (l : List Stp) : Bool := !l.isEmpty && okL1 l
mutual
def cntS : Stp → Nat
  | .mk _ _ _ _ _ subs => cntLL subs
def cntL : List Stp → Nat
  | [] => 0
  | s :: r => 1 + cntS s + cntL r
def cntLL : List (List Stp) → Nat
  | [] => 0
  | l :: r => cntL l + cntLL r
end
def mxI (a b : Int) : Int := if b > a then b else a
def wr (d : Int) : Int := IntKind.i64.wrap (d + 1)
mutual
def dpL : List Stp → Int → Int → Int
  | [], _, acc => acc
  | s :: r, d, acc => dpL r d (dpS s d acc)
def dpS : Stp → Int → Int → Int
  | .mk _ _ _ _ _ subs, d, acc => dpLL subs d acc
def dpLL : List (List Stp) → Int → Int → Int
  | [], _, acc => acc
  | l :: r, d, acc => dpLL r d (mxI acc (dpL l (wr d) (wr d)))
end
def cntP (l : List Stp) (d : Int) : PV := if okL l = true then .tuple [.int .i64 (IntKind.i64.wrap (cntL l)), .int .i64 (dpL l d d), .bool true] else .tuple [.int .i64 0, .int .i64 0, .bool false]
theorem mx_is (a b : Int) : PV.int .i64 (if true = true then (if b > a then b else a) else (if b < a then b else a)) = PV.int .i64 (mxI a b) := rfl
def okSubs : List Stp → Bool
  | [] => true
  | s :: r => okLL s.subs && okSubs r
def sumS : List Stp → Nat
  | [] => 0
  | s :: r => cntLL s.subs + sumS r
theorem okL1_two : ∀ l : List Stp, okL1 l = (l.all stepB1 && okSubs l)
  | [] => rfl
  | .mk op names nums preds vals subs :: r => by
    rw [okL1, okL1_two r, okS, okSubs, List.all_cons, stepB1, Stp.subs]
    generalize stepB op names nums preds vals subs.length = a
    generalize okLL subs = b
    generalize r.all stepB1 = c
    generalize okSubs r = d
    cases a <;> cases b <;> cases c <;> cases d <;> rfl
theorem cntL_sum : ∀ l : List Stp, cntL l = l.length + sumS l
  | [] => rfl
  | .mk op names nums preds vals subs :: r => by
    rw [cntL, cntL_sum r, cntS, sumS, Stp.subs, List.length_cons]
    omega
section
variable {T : Tb} {Q : Post} {k : List Fr} {ρ : EC} {st : St} {l : List POp} {kill : List Nat}
theorem O_storeW {a x : Opd} {t n : Nat} {cs cs0 : List PV} (ha : a.get ρ = some (.ptr t 0)) (hx : x.get ρ = some (.agg cs)) (h1 : ∀ c ∈ cs, PV.one c = true) (hl : cs.length = n) (hn : Nat.blt 0 n = true) (hg : st.get t = some (.var cs0)) (h0 : cs0.length = n) (h : VO T Q l kill k (ρ.sets none (.tuple [])) (st.put t (.var cs))) : VO T Q (⟨none, none, .store n a x⟩ :: l) kill k ρ st :=
  O_storeV ha hx (List.all_eq_true.2 h1) hl hn (storeAt_whole hg (by rw [h0, hl])) h
end
theorem run_ctStep {n : Nat} {p : PV} {l : List Stp} (hp : SL n p l) : T.R (.call n_slices_ContainsFunc_api_Step [p, .func n_parse_badStep []] (.bool (!l.all stepB1))) := by
  rw [← any_not]
  refine run_ContainsG (f' := n_slices_IndexFunc_api_Step) (sz := 6) (agg := true) (val := .agg) rfl rfl hp (fun _ _ h => h.len6) (fun _ _ h => load_agg h.len6 _) (fun _ _ h => .agg _ h.pl) hp.pl pl_nil (fun a _ cs h => ?_)
  obtain ⟨op, names, nums, preds, vals, subs⟩ := a
  exact run_badStep h
theorem count_in {n : Nat} {pe : PV} {subs : List (List Stp)} (hp : LR (SubC (SC n)) pe subs) (d : Int) (st : St) (hd : ∀ x ∈ subs, ∀ q, SL n q x → T.R (.call n_parse_count [q, .int .i64 (wr d)] (cntP x (wr d)))) (p : PV) (L I : Int) (plp : Pl p) :
    ∀ (rest pre : List (List Stp)) (N M : Int), subs = pre ++ rest →
    V T (PE fun x e st' => st' = st ∧ ((x = .exit 2 ∧ okLL rest = true ∧ ∃ a b : Int, e = ecOf [(1, .int .i64 d), (7, .int .i64 a), (8, .int .i64 b), (25, p), (26, .int .i64 L), (27, .int .i64 I)] ∧ a = IntKind.i64.wrap (N + cntLL rest) ∧ b = dpLL rest d M) ∨ (x = .ret ∧ okLL rest = false ∧ e = ecOf [(4, .int .i64 0), (5, .int .i64 0), (6, .bool false)])))
      [.code (.loop lp_parse_count_0)] .normal (ecOf [(1, .int .i64 d), (7, .int .i64 (IntKind.i64.wrap N)), (8, .int .i64 M), (25, p), (26, .int .i64 L), (27, .int .i64 I), (32, pe), (33, .int .i64 subs.length), (34, .int .i64 pre.length)]) st := by
  have ple : Pl pe := LR.pl hp fun _ _ _ h => h.pl fun _ _ h => h.pl
  obtain ⟨le1, le2, le3⟩ := hp.len
  intro rest
  induction rest with
  | nil =>
    intro pre N M ha
    have hlt : ¬ (pre.length : Int) < subs.length := by subst ha; simp
    refine V_unroll ?_
    repeat' first | refine V_cHF rfl rfl hlt ?_ | refine V_out [(1, .int .i64 d), (7, .int .i64 (IntKind.i64.wrap N)), (8, .int .i64 M), (25, p), (26, .int .i64 L), (27, .int .i64 I)] rfl ⟨rfl, rfl, rfl, rfl, rfl, rfl, trivial⟩ ⟨rfl, .inl ⟨rfl, rfl, _, _, rfl, by simp [cntLL], rfl⟩⟩ | refine V_O rfl ?_ | refine O_step rfl ?_ | refine O_nil' ?_ | refine V_cT rfl rfl ?_ | refine V_cF rfl rfl ?_ | refine V_cEq rfl rfl ?_ | refine V_cNe rfl rfl ?_ | refine V_cB rfl rfl (fun _ => ?_) (fun _ => ?_) | refine O_gT' rfl ?_ | refine O_gU' rfl ?_ | refine O_gF' rfl rfl ?_ | refine O_gEq rfl ?_ | refine O_gNe rfl ?_ | refine O_gS rfl (fun _ => ?_) (fun _ => ?_) | refine V_fA rfl rfl ?_ | refine V_fAN rfl rfl ?_ | refine V_D rfl ?_ | refine D_step rfl ?_ | refine D_nil' ?_ | refine D_gT' rfl ?_ | refine D_gU' rfl ?_ | refine D_gF' rfl rfl ?_ | refine D_gS rfl (fun _ => ?_) (fun _ => ?_)
  | cons y rest ih =>
    intro pre N M ha
    have hlt : (pre.length : Int) < subs.length := by subst ha; simp; omega
    have hll : pre.length < subs.length := by subst ha; simp
    have hy : subs[pre.length]? = some y := by subst ha; simp
    obtain ⟨cy, ay, q, rfl, hq⟩ := hp.at (sz := 1) (fun _ _ h => h.len1) hy
    have plq := SL.pl hq
    have hcall := hd y (by subst ha; simp) q hq
    have hw : IntKind.i64.wrap ((pre.length : Int) + 1) = ((pre ++ [y]).length : Int) := by rw [wrap_i64]; simp; omega
    unfold cntP at hcall
    have hok : okLL (y :: rest) = (okL y && okLL rest) := by rw [okLL]; rfl
    rw [hok]
    cases hoy : okL y with
    | false =>
      rw [hoy, if_neg (by simp)] at hcall
      refine V_unroll ?_
      repeat' first | refine V_cHY rfl rfl hlt ?_ | refine O_at rfl rfl ay ?_ | refine O_cA rfl rfl hcall ?_ | refine V_out [(4, .int .i64 0), (5, .int .i64 0), (6, .bool false)] rfl ⟨rfl, rfl, rfl, trivial⟩ ⟨rfl, .inr ⟨rfl, rfl, rfl⟩⟩ | refine V_O rfl ?_ | refine O_step rfl ?_ | refine O_nil' ?_ | refine V_cT rfl rfl ?_ | refine V_cF rfl rfl ?_ | refine V_cEq rfl rfl ?_ | refine V_cNe rfl rfl ?_ | refine V_cB rfl rfl (fun _ => ?_) (fun _ => ?_) | refine O_gT' rfl ?_ | refine O_gU' rfl ?_ | refine O_gF' rfl rfl ?_ | refine O_gEq rfl ?_ | refine O_gNe rfl ?_ | refine O_gS rfl (fun _ => ?_) (fun _ => ?_) | refine V_fA rfl rfl ?_ | refine V_fAN rfl rfl ?_ | refine V_D rfl ?_ | refine D_step rfl ?_ | refine D_nil' ?_ | refine D_gT' rfl ?_ | refine D_gU' rfl ?_ | refine D_gF' rfl rfl ?_ | refine D_gS rfl (fun _ => ?_) (fun _ => ?_)
    | true =>
      rw [hoy, if_pos rfl] at hcall
      have hi := ih (pre ++ [y]) (N + cntL y) (mxI M (dpL y (wr d) (wr d))) (by rw [ha]; simp)
      have e2 : N + ((cntLL (y :: rest) : Nat) : Int) = N + (cntL y : Int) + (cntLL rest : Int) := by rw [cntLL]; simp; omega
      have e4 : PV.int .i64 (IntKind.i64.wrap (IntKind.i64.wrap N + IntKind.i64.wrap (cntL y : Int))) = PV.int .i64 (IntKind.i64.wrap (N + cntL y)) := int_is (wrap_add _ _)
      rw [e2, dpLL, Bool.true_and]
      refine V_unroll ?_
      repeat' first | refine V_cHY rfl rfl hlt ?_ | refine O_at rfl rfl ay ?_ | refine O_cA rfl rfl hcall ?_ | refine O_is e4 rfl ?_ | refine O_is (mx_is _ _) rfl ?_ | refine V_re rfl hi ⟨rfl, rfl, rfl, rfl, rfl, rfl, rfl, rfl, some_int hw, trivial⟩ | refine V_O rfl ?_ | refine O_step rfl ?_ | refine O_nil' ?_ | refine V_cT rfl rfl ?_ | refine V_cF rfl rfl ?_ | refine V_cEq rfl rfl ?_ | refine V_cNe rfl rfl ?_ | refine V_cB rfl rfl (fun _ => ?_) (fun _ => ?_) | refine O_gT' rfl ?_ | refine O_gU' rfl ?_ | refine O_gF' rfl rfl ?_ | refine O_gEq rfl ?_ | refine O_gNe rfl ?_ | refine O_gS rfl (fun _ => ?_) (fun _ => ?_) | refine V_fA rfl rfl ?_ | refine V_fAN rfl rfl ?_ | refine V_D rfl ?_ | refine D_step rfl ?_ | refine D_nil' ?_ | refine D_gT' rfl ?_ | refine D_gU' rfl ?_ | refine D_gF' rfl rfl ?_ | refine D_gS rfl (fun _ => ?_) (fun _ => ?_)
theorem count_out {n : Nat} {p : PV} {l : List Stp} (hp : SL (n + 1) p l) (d : Int) (hd : ∀ x, ∀ q, SL n q x → T.R (.call n_parse_count [q, .int .i64 (wr d)] (cntP x (wr d)))) :
    ∀ (rest pre : List Stp) (N M : Int), l = pre ++ rest →
    V T (PE fun x e st' => (x = .exit 0 ∧ okSubs rest = true ∧ ∃ a b : Int, e = ecOf [(7, .int .i64 a), (8, .int .i64 b)] ∧ a = IntKind.i64.wrap (N + sumS rest) ∧ b = dpL rest d M) ∨ (x = .ret ∧ okSubs rest = false ∧ e = ecOf [(4, .int .i64 0), (5, .int .i64 0), (6, .bool false)]))
      [.code (.loop lp_parse_count_1)] .normal (ecOf [(1, .int .i64 d), (7, .int .i64 (IntKind.i64.wrap N)), (8, .int .i64 M), (25, p), (26, .int .i64 l.length), (27, .int .i64 pre.length)]) emptySt := by
  have plp : Pl p := SL.pl hp
  obtain ⟨lp1, lp2, lp3⟩ := hp.len
  intro rest
  induction rest with
  | nil =>
    intro pre N M ha
    have hlt : ¬ (pre.length : Int) < l.length := by subst ha; simp
    refine V_unroll ?_
    repeat' first | refine V_cHF rfl rfl hlt ?_ | refine V_out [(7, .int .i64 (IntKind.i64.wrap N)), (8, .int .i64 M)] rfl ⟨rfl, rfl, trivial⟩ (.inl ⟨rfl, rfl, _, _, rfl, by simp [sumS], rfl⟩) | refine V_O rfl ?_ | refine O_step rfl ?_ | refine O_nil' ?_ | refine V_cT rfl rfl ?_ | refine V_cF rfl rfl ?_ | refine V_cEq rfl rfl ?_ | refine V_cNe rfl rfl ?_ | refine V_cB rfl rfl (fun _ => ?_) (fun _ => ?_) | refine O_gT' rfl ?_ | refine O_gU' rfl ?_ | refine O_gF' rfl rfl ?_ | refine O_gEq rfl ?_ | refine O_gNe rfl ?_ | refine O_gS rfl (fun _ => ?_) (fun _ => ?_) | refine V_fA rfl rfl ?_ | refine V_fAN rfl rfl ?_ | refine V_D rfl ?_ | refine D_step rfl ?_ | refine D_nil' ?_ | refine D_gT' rfl ?_ | refine D_gU' rfl ?_ | refine D_gF' rfl rfl ?_ | refine D_gS rfl (fun _ => ?_) (fun _ => ?_)
  | cons y rest ih =>
    intro pre N M ha
    have hlt : (pre.length : Int) < l.length := by subst ha; simp; omega
    have hll : pre.length < l.length := by subst ha; simp
    have hy : l[pre.length]? = some y := by subst ha; simp
    obtain ⟨cy, ay, hc⟩ := SL.at hp hy
    have plc := hc.pl
    have onec := hc.one
    have len6 := hc.len6
    obtain ⟨op, names, nums, preds, vals, subs⟩ := y
    obtain ⟨ho, pa, pb, pc, pd, pe, rfl, h1, h2, h3, h4, h5⟩ := hc
    obtain ⟨le1, le2, le3⟩ := h5.len
    have hw : IntKind.i64.wrap ((pre.length : Int) + 1) = ((pre ++ [Stp.mk op names nums preds vals subs]).length : Int) := by rw [wrap_i64]; simp; omega
    have hin := count_in h5 d ((emptySt.new (.var [.int .i64 0, .nilSl, .nilSl, .nilSl, .nilSl, .nilSl])).put 0 (.var [.int .i64 op, pa, pb, pc, pd, pe])) (fun x _ q hq => hd x q hq) p l.length pre.length plp subs [] N M rfl
    have e1 : okSubs (Stp.mk op names nums preds vals subs :: rest) = (okLL subs && okSubs rest) := rfl
    rw [e1]
    refine V_unroll ?_
    repeat' first | refine V_cHY rfl rfl hlt ?_ | refine O_at rfl rfl ay ?_ | refine O_loadA rfl len6 ?_ | refine O_step rfl ?_ | refine O_storeW rfl rfl onec rfl rfl rfl rfl ?_ | refine O_lenO rfl le1 le2 ?_ | refine O_stepL rfl ?_ | refine V_cutTo rfl hin ⟨rfl, rfl, rfl, rfl, rfl, rfl, rfl, rfl, rfl, trivial⟩ ?_ | refine V_O rfl ?_ | refine O_step rfl ?_ | refine O_nil' ?_ | refine V_cT rfl rfl ?_ | refine V_cF rfl rfl ?_ | refine V_cEq rfl rfl ?_ | refine V_cNe rfl rfl ?_ | refine V_cB rfl rfl (fun _ => ?_) (fun _ => ?_) | refine O_gT' rfl ?_ | refine O_gU' rfl ?_ | refine O_gF' rfl rfl ?_ | refine O_gEq rfl ?_ | refine O_gNe rfl ?_ | refine O_gS rfl (fun _ => ?_) (fun _ => ?_) | refine V_fA rfl rfl ?_ | refine V_fAN rfl rfl ?_ | refine V_D rfl ?_ | refine D_step rfl ?_ | refine D_nil' ?_ | refine D_gT' rfl ?_ | refine D_gU' rfl ?_ | refine D_gF' rfl rfl ?_ | refine D_gS rfl (fun _ => ?_) (fun _ => ?_)
    rintro x e' st' ⟨rfl, ⟨rfl, hok, a, b, rfl, rfl, rfl⟩ | ⟨rfl, hok, rfl⟩⟩
    · have hi := ih (pre ++ [Stp.mk op names nums preds vals subs]) (N + cntLL subs) (dpLL subs d M) (by rw [ha]; simp)
      have e2 : N + ((sumS (Stp.mk op names nums preds vals subs :: rest) : Nat) : Int) = N + (cntLL subs : Int) + (sumS rest : Int) := by rw [sumS, Stp.subs]; simp; omega
      rw [hok, e2, dpL, dpS, Bool.true_and]
      repeat' first | refine V_reF rfl hi rfl ⟨rfl, rfl, rfl, rfl, rfl, some_int hw, trivial⟩ ⟨.int _ _, .int _ _, .int _ _, plp, .int _ _, .int _ _, trivial⟩ | refine V_O rfl ?_ | refine O_step rfl ?_ | refine O_nil' ?_ | refine V_cT rfl rfl ?_ | refine V_cF rfl rfl ?_ | refine V_cEq rfl rfl ?_ | refine V_cNe rfl rfl ?_ | refine V_cB rfl rfl (fun _ => ?_) (fun _ => ?_) | refine O_gT' rfl ?_ | refine O_gU' rfl ?_ | refine O_gF' rfl rfl ?_ | refine O_gEq rfl ?_ | refine O_gNe rfl ?_ | refine O_gS rfl (fun _ => ?_) (fun _ => ?_) | refine V_fA rfl rfl ?_ | refine V_fAN rfl rfl ?_ | refine V_D rfl ?_ | refine D_step rfl ?_ | refine D_nil' ?_ | refine D_gT' rfl ?_ | refine D_gU' rfl ?_ | refine D_gF' rfl rfl ?_ | refine D_gS rfl (fun _ => ?_) (fun _ => ?_)
    · rw [hok, Bool.false_and]
      repeat' first | refine V_out [(4, .int .i64 0), (5, .int .i64 0), (6, .bool false)] rfl ⟨rfl, rfl, rfl, trivial⟩ (.inr ⟨rfl, rfl, rfl⟩) | refine V_O rfl ?_ | refine O_step rfl ?_ | refine O_nil' ?_ | refine V_cT rfl rfl ?_ | refine V_cF rfl rfl ?_ | refine V_cEq rfl rfl ?_ | refine V_cNe rfl rfl ?_ | refine V_cB rfl rfl (fun _ => ?_) (fun _ => ?_) | refine O_gT' rfl ?_ | refine O_gU' rfl ?_ | refine O_gF' rfl rfl ?_ | refine O_gEq rfl ?_ | refine O_gNe rfl ?_ | refine O_gS rfl (fun _ => ?_) (fun _ => ?_) | refine V_fA rfl rfl ?_ | refine V_fAN rfl rfl ?_ | refine V_D rfl ?_ | refine D_step rfl ?_ | refine D_nil' ?_ | refine D_gT' rfl ?_ | refine D_gU' rfl ?_ | refine D_gF' rfl rfl ?_ | refine D_gS rfl (fun _ => ?_) (fun _ => ?_)
theorem isEmpty_len {α : Type} (l : List α) : decide ((l.length : Int) = 0) = l.isEmpty := by
  cases l with
  | nil => rfl
  | cons a r =>
    rw [decide_eq_false (by simp; omega)]
    rfl
theorem run_count : ∀ (n : Nat) (l : List Stp) (p : PV) (d : Int), SL n p l → T.R (.call n_parse_count [p, .int .i64 d] (cntP l d)) := by
  have main : ∀ (n : Nat) (l : List Stp) (p : PV) (d : Int), SL (n + 1) p l → (∀ (l : List Stp) (p : PV) (d : Int), SL n p l → T.R (.call n_parse_count [p, .int .i64 d] (cntP l d))) → T.R (.call n_parse_count [p, .int .i64 d] (cntP l d)) := by
    intro n l p d hp ih
    have plp : Pl p := SL.pl hp
    obtain ⟨lp1, lp2, lp3⟩ := hp.len
    have hct := run_ctStep hp
    have hout := count_out hp d (fun x q hq => ih x q (wr d) hq) l [] l.length d rfl
    have hwl : IntKind.i64.wrap (l.length : Int) = l.length := wrap_id (i64_of_len lp3)
    rw [hwl] at hout
    unfold cntP okL
    rw [okL1_two]
    have hem := isEmpty_len l
    cases hE : l.isEmpty with
    | true =>
      rw [hE] at hem
      refine call_V rfl rfl ?_
      repeat' first | refine O_lenO rfl lp1 lp2 ?_ | refine O_is (bool_is hem) rfl ?_ | refine V_O rfl ?_ | refine O_step rfl ?_ | refine O_nil' ?_ | refine V_cT rfl rfl ?_ | refine V_cF rfl rfl ?_ | refine V_cEq rfl rfl ?_ | refine V_cNe rfl rfl ?_ | refine V_cB rfl rfl (fun _ => ?_) (fun _ => ?_) | refine O_gT' rfl ?_ | refine O_gU' rfl ?_ | refine O_gF' rfl rfl ?_ | refine O_gEq rfl ?_ | refine O_gNe rfl ?_ | refine O_gS rfl (fun _ => ?_) (fun _ => ?_) | refine V_fA rfl rfl ?_ | refine V_fAN rfl rfl ?_ | refine V_D rfl ?_ | refine D_step rfl ?_ | refine D_nil' ?_ | refine D_gT' rfl ?_ | refine D_gU' rfl ?_ | refine D_gF' rfl rfl ?_ | refine D_gS rfl (fun _ => ?_) (fun _ => ?_)
      rfl
    | false =>
      rw [hE] at hem
      cases hB : l.all stepB1 with
      | false =>
        rw [hB] at hct
        refine call_V rfl rfl ?_
        repeat' first | refine O_lenO rfl lp1 lp2 ?_ | refine O_is (bool_is hem) rfl ?_ | refine O_cA rfl rfl hct ?_ | refine V_O rfl ?_ | refine O_step rfl ?_ | refine O_nil' ?_ | refine V_cT rfl rfl ?_ | refine V_cF rfl rfl ?_ | refine V_cEq rfl rfl ?_ | refine V_cNe rfl rfl ?_ | refine V_cB rfl rfl (fun _ => ?_) (fun _ => ?_) | refine O_gT' rfl ?_ | refine O_gU' rfl ?_ | refine O_gF' rfl rfl ?_ | refine O_gEq rfl ?_ | refine O_gNe rfl ?_ | refine O_gS rfl (fun _ => ?_) (fun _ => ?_) | refine V_fA rfl rfl ?_ | refine V_fAN rfl rfl ?_ | refine V_D rfl ?_ | refine D_step rfl ?_ | refine D_nil' ?_ | refine D_gT' rfl ?_ | refine D_gU' rfl ?_ | refine D_gF' rfl rfl ?_ | refine D_gS rfl (fun _ => ?_) (fun _ => ?_)
        rfl
      | true =>
        rw [hB] at hct
        refine call_V rfl rfl ?_
        repeat' first | refine O_lenO rfl lp1 lp2 ?_ | refine O_is (bool_is hem) rfl ?_ | refine O_cA rfl rfl hct ?_ | refine V_cutTo rfl hout ⟨rfl, rfl, rfl, rfl, rfl, rfl, trivial⟩ ?_ | refine V_O rfl ?_ | refine O_step rfl ?_ | refine O_nil' ?_ | refine V_cT rfl rfl ?_ | refine V_cF rfl rfl ?_ | refine V_cEq rfl rfl ?_ | refine V_cNe rfl rfl ?_ | refine V_cB rfl rfl (fun _ => ?_) (fun _ => ?_) | refine O_gT' rfl ?_ | refine O_gU' rfl ?_ | refine O_gF' rfl rfl ?_ | refine O_gEq rfl ?_ | refine O_gNe rfl ?_ | refine O_gS rfl (fun _ => ?_) (fun _ => ?_) | refine V_fA rfl rfl ?_ | refine V_fAN rfl rfl ?_ | refine V_D rfl ?_ | refine D_step rfl ?_ | refine D_nil' ?_ | refine D_gT' rfl ?_ | refine D_gU' rfl ?_ | refine D_gF' rfl rfl ?_ | refine D_gS rfl (fun _ => ?_) (fun _ => ?_)
        rintro x e' st' (⟨rfl, hok, a, b, rfl, rfl, rfl⟩ | ⟨rfl, hok, rfl⟩)
        · rw [hok]
          have e1 : ((l.length : Int) + (sumS l : Int)) = (cntL l : Int) := by rw [cntL_sum]; simp
          rw [e1]
          repeat' first | refine V_O rfl ?_ | refine O_step rfl ?_ | refine O_nil' ?_ | refine V_cT rfl rfl ?_ | refine V_cF rfl rfl ?_ | refine V_cEq rfl rfl ?_ | refine V_cNe rfl rfl ?_ | refine V_cB rfl rfl (fun _ => ?_) (fun _ => ?_) | refine O_gT' rfl ?_ | refine O_gU' rfl ?_ | refine O_gF' rfl rfl ?_ | refine O_gEq rfl ?_ | refine O_gNe rfl ?_ | refine O_gS rfl (fun _ => ?_) (fun _ => ?_) | refine V_fA rfl rfl ?_ | refine V_fAN rfl rfl ?_ | refine V_D rfl ?_ | refine D_step rfl ?_ | refine D_nil' ?_ | refine D_gT' rfl ?_ | refine D_gU' rfl ?_ | refine D_gF' rfl rfl ?_ | refine D_gS rfl (fun _ => ?_) (fun _ => ?_)
          rfl
        · rw [hok]
          repeat' first | refine V_O rfl ?_ | refine O_step rfl ?_ | refine O_nil' ?_ | refine V_cT rfl rfl ?_ | refine V_cF rfl rfl ?_ | refine V_cEq rfl rfl ?_ | refine V_cNe rfl rfl ?_ | refine V_cB rfl rfl (fun _ => ?_) (fun _ => ?_) | refine O_gT' rfl ?_ | refine O_gU' rfl ?_ | refine O_gF' rfl rfl ?_ | refine O_gEq rfl ?_ | refine O_gNe rfl ?_ | refine O_gS rfl (fun _ => ?_) (fun _ => ?_) | refine V_fA rfl rfl ?_ | refine V_fAN rfl rfl ?_ | refine V_D rfl ?_ | refine D_step rfl ?_ | refine D_nil' ?_ | refine D_gT' rfl ?_ | refine D_gU' rfl ?_ | refine D_gF' rfl rfl ?_ | refine D_gS rfl (fun _ => ?_) (fun _ => ?_)
          rfl
  intro n
  induction n with
  | zero =>
    intro l p d hp
    have hl : l = [] := by
      cases l with
      | nil => rfl
      | cons s r =>
        obtain ⟨cs, _, h⟩ := SL.at hp (j := 0) (s := s) rfl
        exact h.elim
    subst hl
    obtain ⟨lp1, lp2, lp3⟩ := hp.len
    have plp : Pl p := SL.pl hp
    refine call_V rfl rfl ?_
    repeat' first | refine O_lenO rfl lp1 lp2 ?_ | refine V_O rfl ?_ | refine O_step rfl ?_ | refine O_nil' ?_ | refine V_cT rfl rfl ?_ | refine V_cF rfl rfl ?_ | refine V_cEq rfl rfl ?_ | refine V_cNe rfl rfl ?_ | refine V_cB rfl rfl (fun _ => ?_) (fun _ => ?_) | refine O_gT' rfl ?_ | refine O_gU' rfl ?_ | refine O_gF' rfl rfl ?_ | refine O_gEq rfl ?_ | refine O_gNe rfl ?_ | refine O_gS rfl (fun _ => ?_) (fun _ => ?_) | refine V_fA rfl rfl ?_ | refine V_fAN rfl rfl ?_ | refine V_D rfl ?_ | refine D_step rfl ?_ | refine D_nil' ?_ | refine D_gT' rfl ?_ | refine D_gU' rfl ?_ | refine D_gF' rfl rfl ?_ | refine D_gS rfl (fun _ => ?_) (fun _ => ?_)
    rfl
  | succ n ih => exact fun l p d hp => main n l p d hp ih
def chkL (l : List Stp) : Int := if okL l = true then (if 256 < IntKind.i64.wrap (cntL l) ∨ 8 < dpL l 1 1 then 3 else 0) else 161
theorem run_PCheck {n : Nat} {l : List Stp} {p : PV} (hp : SL n p l) : T.R (.call n_parse_Check [p] (.int .i64 (chkL l))) := by
  have h := run_count n l p 1 hp
  have plp : Pl p := SL.pl hp
  unfold cntP at h
  unfold chkL
  cases hok : okL l with
  | false =>
    rw [hok, if_neg (by simp)] at h
    refine call_V rfl rfl ?_
    repeat' first | refine O_cA rfl rfl h ?_ | refine V_O rfl ?_ | refine O_step rfl ?_ | refine O_nil' ?_ | refine V_cT rfl rfl ?_ | refine V_cF rfl rfl ?_ | refine V_cEq rfl rfl ?_ | refine V_cNe rfl rfl ?_ | refine V_cB rfl rfl (fun _ => ?_) (fun _ => ?_) | refine O_gT' rfl ?_ | refine O_gU' rfl ?_ | refine O_gF' rfl rfl ?_ | refine O_gEq rfl ?_ | refine O_gNe rfl ?_ | refine O_gS rfl (fun _ => ?_) (fun _ => ?_) | refine V_fA rfl rfl ?_ | refine V_fAN rfl rfl ?_ | refine V_D rfl ?_ | refine D_step rfl ?_ | refine D_nil' ?_ | refine D_gT' rfl ?_ | refine D_gU' rfl ?_ | refine D_gF' rfl rfl ?_ | refine D_gS rfl (fun _ => ?_) (fun _ => ?_)
    rfl
  | true =>
    rw [hok, if_pos rfl] at h
    rw [if_pos rfl]
    generalize IntKind.i64.wrap (cntL l : Int) = a at *
    generalize dpL l 1 1 = b at *
    refine call_V rfl rfl ?_
    repeat' first | refine O_cA rfl rfl h ?_ | refine V_O rfl ?_ | refine O_step rfl ?_ | refine O_nil' ?_ | refine V_cT rfl rfl ?_ | refine V_cF rfl rfl ?_ | refine V_cEq rfl rfl ?_ | refine V_cNe rfl rfl ?_ | refine V_cB rfl rfl (fun _ => ?_) (fun _ => ?_) | refine O_gT' rfl ?_ | refine O_gU' rfl ?_ | refine O_gF' rfl rfl ?_ | refine O_gEq rfl ?_ | refine O_gNe rfl ?_ | refine O_gS rfl (fun _ => ?_) (fun _ => ?_) | refine V_fA rfl rfl ?_ | refine V_fAN rfl rfl ?_ | refine V_D rfl ?_ | refine D_step rfl ?_ | refine D_nil' ?_ | refine D_gT' rfl ?_ | refine D_gU' rfl ?_ | refine D_gF' rfl rfl ?_ | refine D_gS rfl (fun _ => ?_) (fun _ => ?_)
    all_goals simp_all
end Go.Proofs.YtinojffgmgjblaaGreatDoor
