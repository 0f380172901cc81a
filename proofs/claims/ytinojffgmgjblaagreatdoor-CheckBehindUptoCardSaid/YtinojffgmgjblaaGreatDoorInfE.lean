/- What comes of steps: check.infer, Infer, Type; the statement's begun, few, again. -/
import Derived.Test.YtinojffgmgjblaaGreatDoorInfD
set_option linter.unusedVariables false
set_option linter.unusedSimpArgs false
namespace Go.Proofs.YtinojffgmgjblaaGreatDoor
open Go Go.AM Go.RowKit
theorem infer_loop {n : Nat} {p : PV} {l : List Stp} (hp : SL n p l) (hs : ∀ s ∈ l, ∀ cs, SC n s cs → ∀ i, KS i → T.R (.call n_check_step [.int .i64 (i : Int), .agg cs] (inP (stF s i)))) : ∀ (rest pre : List Stp) (i : Nat), l = pre ++ rest → KS i →
    V T (PE fun x e st' => (x = .exit 0 ∧ ∃ m : Nat, e = ecOf [(0, .int .i64 (m : Int))] ∧ seqF (lF rest) i = (m, 0)) ∨ (x = .ret ∧ ∃ c : Int, e = ecOf [(4, .int .i64 0), (5, .int .i64 c)] ∧ seqF (lF rest) i = (0, c)))
      [.code (.loop lp_check_infer_0)] .normal (ecOf [(0, .int .i64 (i : Int)), (12, p), (13, .int .i64 l.length), (14, .int .i64 pre.length)]) emptySt := by
  have plp : Pl p := SL.pl hp
  obtain ⟨lp1, lp2, lp3⟩ := hp.len
  intro rest
  induction rest with
  | nil =>
    intro pre i ha hi
    have hlt : ¬ (pre.length : Int) < l.length := by subst ha; simp
    refine V_unroll ?_
    repeat' first | refine V_cHF rfl rfl hlt ?_ | refine V_out [(0, .int .i64 (i : Int))] rfl ⟨rfl, trivial⟩ (.inl ⟨rfl, _, rfl, rfl⟩) | refine V_O rfl ?_ | refine O_step rfl ?_ | refine O_nil' ?_ | refine V_cT rfl rfl ?_ | refine V_cF rfl rfl ?_ | refine V_cEq rfl rfl ?_ | refine V_cNe rfl rfl ?_ | refine V_cB rfl rfl (fun _ => ?_) (fun _ => ?_) | refine O_gT' rfl ?_ | refine O_gU' rfl ?_ | refine O_gF' rfl rfl ?_ | refine O_gEq rfl ?_ | refine O_gNe rfl ?_ | refine O_gS rfl (fun _ => ?_) (fun _ => ?_) | refine V_fA rfl rfl ?_ | refine V_fAN rfl rfl ?_ | refine V_D rfl ?_ | refine D_step rfl ?_ | refine D_nil' ?_ | refine D_gT' rfl ?_ | refine D_gU' rfl ?_ | refine D_gF' rfl rfl ?_ | refine D_gS rfl (fun _ => ?_) (fun _ => ?_)
  | cons y rest ih =>
    intro pre i ha hi
    have hlt : (pre.length : Int) < l.length := by subst ha; simp; omega
    have hll : pre.length < l.length := by subst ha; simp
    have hy : l[pre.length]? = some y := by subst ha; simp
    obtain ⟨cy, ay, hc⟩ := SL.at hp hy
    have hcall := hs y (by subst ha; simp) cy hc i hi
    have hw : IntKind.i64.wrap ((pre.length : Int) + 1) = ((pre ++ [y]).length : Int) := by rw [wrap_i64]; simp; omega
    have onec := hc.one
    have len6 := hc.len6
    have hi' := ih (pre ++ [y]) (stF y i).1 (by rw [ha]; simp) ((stF_mono y).1 i hi)
    rw [lF, seqF]
    unfold inP at hcall
    generalize stF y i = r at hcall hi' ⊢
    obtain ⟨op, names, nums, preds, vals, subs⟩ := y
    obtain ⟨m, pa, pb, pc, pd, pe, rfl, ho, rfl, h1, h2, h3, h4, h5, pla, plb, plc, pld, ple⟩ := hc.open
    refine V_unroll ?_
    by_cases c1 : r.2 = 0
    · rw [if_pos c1]
      repeat' first | refine V_cHY rfl rfl hlt ?_ | refine O_at rfl rfl ay ?_ | refine O_loadA rfl len6 ?_ | refine O_storeW rfl rfl onec rfl rfl rfl rfl ?_ | refine O_loadP rfl rfl rfl ?_ | refine O_cA rfl rfl hcall ?_ | refine O_is (ndec_is c1) rfl ?_ | refine O_step rfl ?_ | refine O_stepL rfl ?_ | refine V_reF rfl hi' rfl ⟨rfl, rfl, rfl, some_int hw, trivial⟩ ⟨.int _ _, plp, .int _ _, .int _ _, trivial⟩ | refine V_O rfl ?_ | refine O_step rfl ?_ | refine O_nil' ?_ | refine V_cT rfl rfl ?_ | refine V_cF rfl rfl ?_ | refine V_cEq rfl rfl ?_ | refine V_cNe rfl rfl ?_ | refine V_cB rfl rfl (fun _ => ?_) (fun _ => ?_) | refine O_gT' rfl ?_ | refine O_gU' rfl ?_ | refine O_gF' rfl rfl ?_ | refine O_gEq rfl ?_ | refine O_gNe rfl ?_ | refine O_gS rfl (fun _ => ?_) (fun _ => ?_) | refine V_fA rfl rfl ?_ | refine V_fAN rfl rfl ?_ | refine V_D rfl ?_ | refine D_step rfl ?_ | refine D_nil' ?_ | refine D_gT' rfl ?_ | refine D_gU' rfl ?_ | refine D_gF' rfl rfl ?_ | refine D_gS rfl (fun _ => ?_) (fun _ => ?_)
    · rw [if_neg c1]
      repeat' first | refine V_cHY rfl rfl hlt ?_ | refine O_at rfl rfl ay ?_ | refine O_loadA rfl len6 ?_ | refine O_storeW rfl rfl onec rfl rfl rfl rfl ?_ | refine O_loadP rfl rfl rfl ?_ | refine O_cA rfl rfl hcall ?_ | refine O_is (ndec_not c1) rfl ?_ | refine O_step rfl ?_ | refine O_stepL rfl ?_ | refine V_out [(4, .int .i64 0), (5, .int .i64 r.2)] rfl ⟨rfl, rfl, trivial⟩ (.inr ⟨rfl, _, rfl, rfl⟩) | refine V_O rfl ?_ | refine O_step rfl ?_ | refine O_nil' ?_ | refine V_cT rfl rfl ?_ | refine V_cF rfl rfl ?_ | refine V_cEq rfl rfl ?_ | refine V_cNe rfl rfl ?_ | refine V_cB rfl rfl (fun _ => ?_) (fun _ => ?_) | refine O_gT' rfl ?_ | refine O_gU' rfl ?_ | refine O_gF' rfl rfl ?_ | refine O_gEq rfl ?_ | refine O_gNe rfl ?_ | refine O_gS rfl (fun _ => ?_) (fun _ => ?_) | refine V_fA rfl rfl ?_ | refine V_fAN rfl rfl ?_ | refine V_D rfl ?_ | refine D_step rfl ?_ | refine D_nil' ?_ | refine D_gT' rfl ?_ | refine D_gU' rfl ?_ | refine D_gF' rfl rfl ?_ | refine D_gS rfl (fun _ => ?_) (fun _ => ?_)
theorem run_infer_of {n : Nat} {p : PV} {l : List Stp} (hp : SL n p l) (hs : ∀ s ∈ l, ∀ cs, SC n s cs → ∀ i, KS i → T.R (.call n_check_step [.int .i64 (i : Int), .agg cs] (inP (stF s i)))) (i : Int) : T.R (.call n_check_infer [.int .i64 i, p] (inP (inferI i l))) := by
  obtain ⟨lp1, lp2, lp3⟩ := hp.len
  have hl := infer_loop hp hs l [] (maskI i) rfl (maskI_ks i)
  have e1 := int_is (k := .i64) (mask_is i)
  unfold inferI
  refine call_V rfl rfl ?_
  repeat' first | refine O_is e1 rfl ?_ | refine O_lenO rfl lp1 lp2 ?_ | refine V_cutTo rfl hl ⟨rfl, rfl, rfl, rfl, trivial⟩ ?_ | refine V_O rfl ?_ | refine O_step rfl ?_ | refine O_nil' ?_ | refine V_cT rfl rfl ?_ | refine V_cF rfl rfl ?_ | refine V_cEq rfl rfl ?_ | refine V_cNe rfl rfl ?_ | refine V_cB rfl rfl (fun _ => ?_) (fun _ => ?_) | refine O_gT' rfl ?_ | refine O_gU' rfl ?_ | refine O_gF' rfl rfl ?_ | refine O_gEq rfl ?_ | refine O_gNe rfl ?_ | refine O_gS rfl (fun _ => ?_) (fun _ => ?_) | refine V_fA rfl rfl ?_ | refine V_fAN rfl rfl ?_ | refine V_D rfl ?_ | refine D_step rfl ?_ | refine D_nil' ?_ | refine D_gT' rfl ?_ | refine D_gU' rfl ?_ | refine D_gF' rfl rfl ?_ | refine D_gS rfl (fun _ => ?_) (fun _ => ?_)
  rintro x e' st' (⟨rfl, m, rfl, hm⟩ | ⟨rfl, c, rfl, hm⟩)
  · rw [hm]
    repeat' first | refine V_O rfl ?_ | refine O_step rfl ?_ | refine O_nil' ?_ | refine V_cT rfl rfl ?_ | refine V_cF rfl rfl ?_ | refine V_cEq rfl rfl ?_ | refine V_cNe rfl rfl ?_ | refine V_cB rfl rfl (fun _ => ?_) (fun _ => ?_) | refine O_gT' rfl ?_ | refine O_gU' rfl ?_ | refine O_gF' rfl rfl ?_ | refine O_gEq rfl ?_ | refine O_gNe rfl ?_ | refine O_gS rfl (fun _ => ?_) (fun _ => ?_) | refine V_fA rfl rfl ?_ | refine V_fAN rfl rfl ?_ | refine V_D rfl ?_ | refine D_step rfl ?_ | refine D_nil' ?_ | refine D_gT' rfl ?_ | refine D_gU' rfl ?_ | refine D_gF' rfl rfl ?_ | refine D_gS rfl (fun _ => ?_) (fun _ => ?_)
    rfl
  · rw [hm]
    repeat' first | refine V_O rfl ?_ | refine O_step rfl ?_ | refine O_nil' ?_ | refine V_cT rfl rfl ?_ | refine V_cF rfl rfl ?_ | refine V_cEq rfl rfl ?_ | refine V_cNe rfl rfl ?_ | refine V_cB rfl rfl (fun _ => ?_) (fun _ => ?_) | refine O_gT' rfl ?_ | refine O_gU' rfl ?_ | refine O_gF' rfl rfl ?_ | refine O_gEq rfl ?_ | refine O_gNe rfl ?_ | refine O_gS rfl (fun _ => ?_) (fun _ => ?_) | refine V_fA rfl rfl ?_ | refine V_fAN rfl rfl ?_ | refine V_D rfl ?_ | refine D_step rfl ?_ | refine D_nil' ?_ | refine D_gT' rfl ?_ | refine D_gU' rfl ?_ | refine D_gF' rfl rfl ?_ | refine D_gS rfl (fun _ => ?_) (fun _ => ?_)
    rfl
theorem tells_of {q : PV} {x : List Stp} (h : ∀ i : Int, T.R (.call n_check_infer [.int .i64 i, q] (inP (inferI i x)))) : Tells q (inferF (lF x)) := fun i hi => by
  have := h (i : Int)
  rw [inferI_nat x (by have := hi.le; omega)] at this
  exact this
theorem run_infer : ∀ (n : Nat) (l : List Stp) (p : PV), SL n p l → gdL l → ∀ i : Int, T.R (.call n_check_infer [.int .i64 i, p] (inP (inferI i l)))
  | 0, l, p, hp, _, i => run_infer_of hp (fun s _ cs h => h.elim) i
  | n + 1, l, p, hp, hg, i => run_infer_of hp (fun s hs cs h j hj => run_step h (fun x q hq hgx => tells_of fun i => run_infer n x q hq hgx i) (gdL_mem hg s hs) j hj) i
def infS (i : Int) (l : List Stp) : Nat × Int := if chkL l = 0 then inferI i l else (0, chkL l)
theorem run_Infer {n : Nat} {l : List Stp} {p : PV} (hp : SL n p l) (i : Int) : T.R (.call n_check_Infer [.int .i64 i, p] (inP (infS i l))) := by
  have h := run_PCheck hp
  have plp : Pl p := SL.pl hp
  unfold infS
  by_cases hc : chkL l = 0
  · rw [if_pos hc]
    have hg : gdL l := by
      refine gdL_of l ?_
      unfold chkL at hc
      cases hok : okL l with
      | false => rw [hok, if_neg (by simp)] at hc; cases hc
      | true =>
        unfold okL at hok
        rw [Bool.and_eq_true] at hok
        exact hok.2
    have hi := run_infer n l p hp hg i
    rw [hc] at h
    unfold inP at hi ⊢
    generalize inferI i l = r at hi ⊢
    refine call_V rfl rfl ?_
    repeat' first | refine O_cA rfl rfl h ?_ | refine O_cA rfl rfl hi ?_ | refine V_O rfl ?_ | refine O_step rfl ?_ | refine O_nil' ?_ | refine V_cT rfl rfl ?_ | refine V_cF rfl rfl ?_ | refine V_cEq rfl rfl ?_ | refine V_cNe rfl rfl ?_ | refine V_cB rfl rfl (fun _ => ?_) (fun _ => ?_) | refine O_gT' rfl ?_ | refine O_gU' rfl ?_ | refine O_gF' rfl rfl ?_ | refine O_gEq rfl ?_ | refine O_gNe rfl ?_ | refine O_gS rfl (fun _ => ?_) (fun _ => ?_) | refine V_fA rfl rfl ?_ | refine V_fAN rfl rfl ?_ | refine V_D rfl ?_ | refine D_step rfl ?_ | refine D_nil' ?_ | refine D_gT' rfl ?_ | refine D_gU' rfl ?_ | refine D_gF' rfl rfl ?_ | refine D_gS rfl (fun _ => ?_) (fun _ => ?_)
    rfl
  · rw [if_neg hc]
    generalize chkL l = c at *
    refine call_V rfl rfl ?_
    repeat' first | refine O_cA rfl rfl h ?_ | refine O_is (ndec_not hc) rfl ?_ | refine V_O rfl ?_ | refine O_step rfl ?_ | refine O_nil' ?_ | refine V_cT rfl rfl ?_ | refine V_cF rfl rfl ?_ | refine V_cEq rfl rfl ?_ | refine V_cNe rfl rfl ?_ | refine V_cB rfl rfl (fun _ => ?_) (fun _ => ?_) | refine O_gT' rfl ?_ | refine O_gU' rfl ?_ | refine O_gF' rfl rfl ?_ | refine O_gEq rfl ?_ | refine O_gNe rfl ?_ | refine O_gS rfl (fun _ => ?_) (fun _ => ?_) | refine V_fA rfl rfl ?_ | refine V_fAN rfl rfl ?_ | refine V_D rfl ?_ | refine D_step rfl ?_ | refine D_nil' ?_ | refine D_gT' rfl ?_ | refine D_gU' rfl ?_ | refine D_gF' rfl rfl ?_ | refine D_gS rfl (fun _ => ?_) (fun _ => ?_)
    rfl
theorem infS_ks (i : Int) (l : List Stp) : KS (infS i l).1 := by
  unfold infS
  split
  · exact inferI_ks i l
  · exact sub_zero _
theorem run_Type {n : Nat} {l : List Stp} {p : PV} (hp : SL n p l) : T.R (.call n_check_Type [p] (inP (infS 16 l))) := by
  have h := run_Infer hp 16
  have plp : Pl p := SL.pl hp
  unfold inP at h ⊢
  generalize infS 16 l = r at h ⊢
  refine call_V rfl rfl ?_
  repeat' first | refine O_cA rfl rfl h ?_ | refine V_O rfl ?_ | refine O_step rfl ?_ | refine O_nil' ?_ | refine V_cT rfl rfl ?_ | refine V_cF rfl rfl ?_ | refine V_cEq rfl rfl ?_ | refine V_cNe rfl rfl ?_ | refine V_cB rfl rfl (fun _ => ?_) (fun _ => ?_) | refine O_gT' rfl ?_ | refine O_gU' rfl ?_ | refine O_gF' rfl rfl ?_ | refine O_gEq rfl ?_ | refine O_gNe rfl ?_ | refine O_gS rfl (fun _ => ?_) (fun _ => ?_) | refine V_fA rfl rfl ?_ | refine V_fAN rfl rfl ?_ | refine V_D rfl ?_ | refine D_step rfl ?_ | refine D_nil' ?_ | refine D_gT' rfl ?_ | refine D_gU' rfl ?_ | refine D_gF' rfl rfl ?_ | refine D_gS rfl (fun _ => ?_) (fun _ => ?_)
  rfl
def stp0 (op : Int) (names : List (List UInt8)) : Stp := .mk op names [] [] [] []
def beg1 : List Stp := [stp0 1 [], stp0 5 [], stp0 32 [[120]], stp0 35 []]
def beg2 : List Stp := [stp0 1 [], stp0 35 [], stp0 5 []]
theorem infS_beg1 : infS 16 beg1 = (2, 0) := by decide +kernel
theorem infS_beg2 : infS 16 beg2 = (0, 170) := by decide +kernel
theorem lr_nil {α : Type} {R : α → List PV → Prop} : LR R .nilSl [] := .inl ⟨rfl, rfl⟩
theorem lr_sl {α : Type} {R : α → List PV → Prop} {xs : List (List PV)} {f : Bool} {l : List α} (hl : xs.length = l.length) (hb : l.length ≤ 1000) (h : ∀ (j : Nat) (a : α) (cs : List PV), l[j]? = some a → xs[j]? = some cs → R a cs) : LR R (.sl xs f) l := .inr ⟨xs, f, rfl, by omega, hl, h⟩
theorem sc0 (op : Int) (h : I64 op) : SC 1 (stp0 op []) [.int .i64 op, .nilSl, .nilSl, .nilSl, .nilSl, .nilSl] := ⟨h, _, _, _, _, _, rfl, lr_nil, lr_nil, lr_nil, lr_nil, lr_nil⟩
theorem sc1 (op : Int) (h : I64 op) (s : List UInt8) (hs : s.length ≤ 140737488355328) (f : Bool) : SC 1 (stp0 op [s]) [.int .i64 op, .sl [[.str s]] f, .nilSl, .nilSl, .nilSl, .nilSl] := ⟨h, _, _, _, _, _, rfl, lr_sl rfl (by simp) (fun j a cs h1 h2 => by
  match j with
  | 0 => injection h1 with h1; injection h2 with h2; subst h1 h2; exact ⟨hs, rfl⟩
  | j + 1 => simp at h1), lr_nil, lr_nil, lr_nil, lr_nil⟩
theorem sl_cons {n : Nat} {xs : List (List PV)} {f : Bool} {l : List Stp} {s : Stp} {cs : List PV} (h : SC n s cs) (hr : LR (SC n) (.sl xs f) l) (hb : l.length < 1000) : LR (SC n) (.sl (cs :: xs) f) (s :: l) := by
  rcases hr with ⟨e, _⟩ | ⟨ys, g, e, h1, h2, h3⟩
  · cases e
  · injection e with e1 e2
    subst e1 e2
    refine lr_sl (by simp [h2]) (by simp; omega) (fun j a ds k1 k2 => ?_)
    match j with
    | 0 => injection k1 with k1; injection k2 with k2; subst k1 k2; exact h
    | j + 1 => exact h3 j a ds (by simpa using k1) (by simpa using k2)
theorem sl_nil {n : Nat} {f : Bool} : LR (SC n) (.sl [] f) [] := lr_sl rfl (by simp) (fun j a cs h => by simp at h)
theorem run_begun : T.R (.call n_ramblelaw17_begun [] (.bool true)) := by
  have i64 : ∀ n : Int, 0 ≤ n → n ≤ 100 → I64 n := fun n h1 h2 => by unfold I64; omega
  have h1 : SL 1 (.sl [[.int .i64 1, .nilSl, .nilSl, .nilSl, .nilSl, .nilSl], [.int .i64 5, .nilSl, .nilSl, .nilSl, .nilSl, .nilSl], [.int .i64 32, .sl [[.str [120]]] true, .nilSl, .nilSl, .nilSl, .nilSl], [.int .i64 35, .nilSl, .nilSl, .nilSl, .nilSl, .nilSl]] true) beg1 :=
    sl_cons (sc0 1 (i64 _ (by omega) (by omega))) (sl_cons (sc0 5 (i64 _ (by omega) (by omega))) (sl_cons (sc1 32 (i64 _ (by omega) (by omega)) [120] (by simp) true) (sl_cons (sc0 35 (i64 _ (by omega) (by omega))) sl_nil (by simp)) (by simp)) (by simp)) (by simp)
  have h2 : SL 1 (.sl [[.int .i64 1, .nilSl, .nilSl, .nilSl, .nilSl, .nilSl], [.int .i64 35, .nilSl, .nilSl, .nilSl, .nilSl, .nilSl], [.int .i64 5, .nilSl, .nilSl, .nilSl, .nilSl, .nilSl]] true) beg2 :=
    sl_cons (sc0 1 (i64 _ (by omega) (by omega))) (sl_cons (sc0 35 (i64 _ (by omega) (by omega))) (sl_cons (sc0 5 (i64 _ (by omega) (by omega))) sl_nil (by simp)) (by simp)) (by simp)
  have t1 := run_Type h1
  have t2 := run_Type h2
  have p1 := SL.pl h1
  have p2 := SL.pl h2
  rw [infS_beg1] at t1
  rw [infS_beg2] at t2
  refine call_V rfl rfl ?_
  repeat' first | refine O_cA rfl rfl t1 ?_ | refine O_cA rfl rfl t2 ?_ | refine O_step rfl ?_ | refine O_stepL rfl ?_ | refine V_O rfl ?_ | refine O_step rfl ?_ | refine O_nil' ?_ | refine V_cT rfl rfl ?_ | refine V_cF rfl rfl ?_ | refine V_cEq rfl rfl ?_ | refine V_cNe rfl rfl ?_ | refine V_cB rfl rfl (fun _ => ?_) (fun _ => ?_) | refine O_gT' rfl ?_ | refine O_gU' rfl ?_ | refine O_gF' rfl rfl ?_ | refine O_gEq rfl ?_ | refine O_gNe rfl ?_ | refine O_gS rfl (fun _ => ?_) (fun _ => ?_) | refine V_fA rfl rfl ?_ | refine V_fAN rfl rfl ?_ | refine V_D rfl ?_ | refine D_step rfl ?_ | refine D_nil' ?_ | refine D_gT' rfl ?_ | refine D_gU' rfl ?_ | refine D_gF' rfl rfl ?_ | refine D_gS rfl (fun _ => ?_) (fun _ => ?_)
  rfl
theorem again_in {n : Nat} {pe : PV} {subs : List (List Stp)} (hp : LR (SubC (SC n)) pe subs) (st : St) (hd : ∀ x ∈ subs, ∀ q, SL n q x → ∃ a : Int, T.R (.call n_ramblelaw17_again [q] (.int .i64 a))) (p : PV) (L I A : Int) (plp : Pl p) (cs : List PV) :
    ∀ (rest pre : List (List Stp)) (M : Int), subs = pre ++ rest →
    V T (PE fun x e st' => st' = st ∧ x = .exit 2 ∧ ∃ a : Int, e = ecOf [(3, .int .i64 A), (5, .ptr 0 0), (6, .int .i64 a), (9, p), (10, .int .i64 L), (11, .int .i64 I)])
      [.code (.loop lp_ramblelaw17_again_0)] .normal (ecOf [(3, .int .i64 A), (5, .ptr 0 0), (6, .int .i64 M), (9, p), (10, .int .i64 L), (11, .int .i64 I), (16, pe), (17, .int .i64 subs.length), (18, .int .i64 pre.length)]) st := by
  have ple : Pl pe := LR.pl hp fun _ _ _ h => h.pl fun _ _ h => h.pl
  obtain ⟨le1, le2, le3⟩ := hp.len
  intro rest
  induction rest with
  | nil =>
    intro pre M ha
    have hlt : ¬ (pre.length : Int) < subs.length := by subst ha; simp
    refine V_unroll ?_
    repeat' first | refine V_cHF rfl rfl hlt ?_ | refine V_out [(3, .int .i64 A), (5, .ptr 0 0), (6, .int .i64 M), (9, p), (10, .int .i64 L), (11, .int .i64 I)] rfl ⟨rfl, rfl, rfl, rfl, rfl, rfl, trivial⟩ ⟨rfl, rfl, _, rfl⟩ | refine V_O rfl ?_ | refine O_step rfl ?_ | refine O_nil' ?_ | refine V_cT rfl rfl ?_ | refine V_cF rfl rfl ?_ | refine V_cEq rfl rfl ?_ | refine V_cNe rfl rfl ?_ | refine V_cB rfl rfl (fun _ => ?_) (fun _ => ?_) | refine O_gT' rfl ?_ | refine O_gU' rfl ?_ | refine O_gF' rfl rfl ?_ | refine O_gEq rfl ?_ | refine O_gNe rfl ?_ | refine O_gS rfl (fun _ => ?_) (fun _ => ?_) | refine V_fA rfl rfl ?_ | refine V_fAN rfl rfl ?_ | refine V_D rfl ?_ | refine D_step rfl ?_ | refine D_nil' ?_ | refine D_gT' rfl ?_ | refine D_gU' rfl ?_ | refine D_gF' rfl rfl ?_ | refine D_gS rfl (fun _ => ?_) (fun _ => ?_)
  | cons y rest ih =>
    intro pre M ha
    have hlt : (pre.length : Int) < subs.length := by subst ha; simp; omega
    have hll : pre.length < subs.length := by subst ha; simp
    have hy : subs[pre.length]? = some y := by subst ha; simp
    obtain ⟨cy, ay, q, rfl, hq⟩ := hp.at (sz := 1) (fun _ _ h => h.len1) hy
    have plq := SL.pl hq
    obtain ⟨a, hcall⟩ := hd y (by subst ha; simp) q hq
    have hw : IntKind.i64.wrap ((pre.length : Int) + 1) = ((pre ++ [y]).length : Int) := by rw [wrap_i64]; simp; omega
    have hi := ih (pre ++ [y]) (mxI M a) (by rw [ha]; simp)
    refine V_unroll ?_
    repeat' first | refine V_cHY rfl rfl hlt ?_ | refine O_at rfl rfl ay ?_ | refine O_cA rfl rfl hcall ?_ | refine O_is (mx_is _ _) rfl ?_ | refine V_re rfl hi ⟨rfl, rfl, rfl, rfl, rfl, rfl, rfl, rfl, some_int hw, trivial⟩ | refine V_O rfl ?_ | refine O_step rfl ?_ | refine O_nil' ?_ | refine V_cT rfl rfl ?_ | refine V_cF rfl rfl ?_ | refine V_cEq rfl rfl ?_ | refine V_cNe rfl rfl ?_ | refine V_cB rfl rfl (fun _ => ?_) (fun _ => ?_) | refine O_gT' rfl ?_ | refine O_gU' rfl ?_ | refine O_gF' rfl rfl ?_ | refine O_gEq rfl ?_ | refine O_gNe rfl ?_ | refine O_gS rfl (fun _ => ?_) (fun _ => ?_) | refine V_fA rfl rfl ?_ | refine V_fAN rfl rfl ?_ | refine V_D rfl ?_ | refine D_step rfl ?_ | refine D_nil' ?_ | refine D_gT' rfl ?_ | refine D_gU' rfl ?_ | refine D_gF' rfl rfl ?_ | refine D_gS rfl (fun _ => ?_) (fun _ => ?_)
theorem again_out {n : Nat} {p : PV} {l : List Stp} (hp : SL (n + 1) p l) (hd : ∀ x, ∀ q, SL n q x → ∃ a : Int, T.R (.call n_ramblelaw17_again [q] (.int .i64 a))) :
    ∀ (rest pre : List Stp) (A : Int), l = pre ++ rest →
    V T (PE fun x e st' => x = .exit 0 ∧ ∃ a : Int, e = ecOf [(3, .int .i64 a)]) [.code (.loop lp_ramblelaw17_again_1)] .normal (ecOf [(3, .int .i64 A), (9, p), (10, .int .i64 l.length), (11, .int .i64 pre.length)]) emptySt := by
  have plp : Pl p := SL.pl hp
  obtain ⟨lp1, lp2, lp3⟩ := hp.len
  intro rest
  induction rest with
  | nil =>
    intro pre A ha
    have hlt : ¬ (pre.length : Int) < l.length := by subst ha; simp
    refine V_unroll ?_
    repeat' first | refine V_cHF rfl rfl hlt ?_ | refine V_out [(3, .int .i64 A)] rfl ⟨rfl, trivial⟩ ⟨rfl, _, rfl⟩ | refine V_O rfl ?_ | refine O_step rfl ?_ | refine O_nil' ?_ | refine V_cT rfl rfl ?_ | refine V_cF rfl rfl ?_ | refine V_cEq rfl rfl ?_ | refine V_cNe rfl rfl ?_ | refine V_cB rfl rfl (fun _ => ?_) (fun _ => ?_) | refine O_gT' rfl ?_ | refine O_gU' rfl ?_ | refine O_gF' rfl rfl ?_ | refine O_gEq rfl ?_ | refine O_gNe rfl ?_ | refine O_gS rfl (fun _ => ?_) (fun _ => ?_) | refine V_fA rfl rfl ?_ | refine V_fAN rfl rfl ?_ | refine V_D rfl ?_ | refine D_step rfl ?_ | refine D_nil' ?_ | refine D_gT' rfl ?_ | refine D_gU' rfl ?_ | refine D_gF' rfl rfl ?_ | refine D_gS rfl (fun _ => ?_) (fun _ => ?_)
  | cons y rest ih =>
    intro pre A ha
    have hlt : (pre.length : Int) < l.length := by subst ha; simp; omega
    have hll : pre.length < l.length := by subst ha; simp
    have hy : l[pre.length]? = some y := by subst ha; simp
    obtain ⟨cy, ay, hc⟩ := SL.at hp hy
    have onec := hc.one
    have len6 := hc.len6
    have hw : IntKind.i64.wrap ((pre.length : Int) + 1) = ((pre ++ [y]).length : Int) := by rw [wrap_i64]; simp; omega
    have hi := fun A => ih (pre ++ [y]) A (by rw [ha]; simp)
    obtain ⟨op, names, nums, preds, vals, subs⟩ := y
    obtain ⟨m, pa, pb, pc, pd, pe, em, ho, rfl, h1, h2, h3, h4, h5, pla, plb, plc, pld, ple⟩ := hc.open
    obtain rfl : n = m := by omega
    obtain ⟨le1, le2, le3⟩ := h5.len
    have hin := again_in h5 ((emptySt.new (.var [.int .i64 0, .nilSl, .nilSl, .nilSl, .nilSl, .nilSl])).put 0 (.var [.int .i64 op, pa, pb, pc, pd, pe])) (fun x _ q hq => hd x q hq) p l.length pre.length A plp [] subs [] 0 rfl
    refine V_unroll ?_
    repeat' first | refine V_cHY rfl rfl hlt ?_ | refine O_at rfl rfl ay ?_ | refine O_loadA rfl len6 ?_ | refine O_step rfl ?_ | refine O_storeW rfl rfl onec rfl rfl rfl rfl ?_ | refine O_lenO rfl le1 le2 ?_ | refine O_stepL rfl ?_ | refine V_cutTo rfl hin ⟨rfl, rfl, rfl, rfl, rfl, rfl, rfl, rfl, rfl, trivial⟩ ?_ | refine V_O rfl ?_ | refine O_step rfl ?_ | refine O_nil' ?_ | refine V_cT rfl rfl ?_ | refine V_cF rfl rfl ?_ | refine V_cEq rfl rfl ?_ | refine V_cNe rfl rfl ?_ | refine V_cB rfl rfl (fun _ => ?_) (fun _ => ?_) | refine O_gT' rfl ?_ | refine O_gU' rfl ?_ | refine O_gF' rfl rfl ?_ | refine O_gEq rfl ?_ | refine O_gNe rfl ?_ | refine O_gS rfl (fun _ => ?_) (fun _ => ?_) | refine V_fA rfl rfl ?_ | refine V_fAN rfl rfl ?_ | refine V_D rfl ?_ | refine D_step rfl ?_ | refine D_nil' ?_ | refine D_gT' rfl ?_ | refine D_gU' rfl ?_ | refine D_gF' rfl rfl ?_ | refine D_gS rfl (fun _ => ?_) (fun _ => ?_)
    rintro x e' st' ⟨rfl, rfl, a, rfl⟩
    repeat' first | refine V_cT rfl rfl ?_ | refine V_cF rfl rfl ?_ | refine V_cS rfl rfl (fun _ => ?_) (fun _ => ?_) | refine O_is (mx_is _ _) rfl ?_ | refine V_reF rfl (hi _) rfl ⟨rfl, rfl, rfl, some_int hw, trivial⟩ ⟨.int _ _, plp, .int _ _, .int _ _, trivial⟩ | refine V_O rfl ?_ | refine O_step rfl ?_ | refine O_nil' ?_ | refine V_cT rfl rfl ?_ | refine V_cF rfl rfl ?_ | refine V_cEq rfl rfl ?_ | refine V_cNe rfl rfl ?_ | refine V_cB rfl rfl (fun _ => ?_) (fun _ => ?_) | refine O_gT' rfl ?_ | refine O_gU' rfl ?_ | refine O_gF' rfl rfl ?_ | refine O_gEq rfl ?_ | refine O_gNe rfl ?_ | refine O_gS rfl (fun _ => ?_) (fun _ => ?_) | refine V_fA rfl rfl ?_ | refine V_fAN rfl rfl ?_ | refine V_D rfl ?_ | refine D_step rfl ?_ | refine D_nil' ?_ | refine D_gT' rfl ?_ | refine D_gU' rfl ?_ | refine D_gF' rfl rfl ?_ | refine D_gS rfl (fun _ => ?_) (fun _ => ?_)
theorem run_again : ∀ (n : Nat) (l : List Stp) (p : PV), SL n p l → ∃ a : Int, T.R (.call n_ramblelaw17_again [p] (.int .i64 a)) := by
  have main : ∀ (n : Nat) (l : List Stp) (p : PV), SL (n + 1) p l → (∀ (l : List Stp) (p : PV), SL n p l → ∃ a : Int, T.R (.call n_ramblelaw17_again [p] (.int .i64 a))) → ∃ a : Int, T.R (.call n_ramblelaw17_again [p] (.int .i64 a)) := by
    intro n l p hp ih
    obtain ⟨lp1, lp2, lp3⟩ := hp.len
    have hout := again_out hp (fun x q hq => ih x q hq) l [] 0 rfl
    have h : ∃ r, T.R (.call n_ramblelaw17_again [p] r) ∧ ∃ a : Int, r = .int .i64 a := by
      refine call_VQ rfl rfl ?_
      repeat' first | refine O_lenO rfl lp1 lp2 ?_ | refine V_cutTo rfl hout ⟨rfl, rfl, rfl, rfl, trivial⟩ ?_ | refine V_O rfl ?_ | refine O_step rfl ?_ | refine O_nil' ?_ | refine V_cT rfl rfl ?_ | refine V_cF rfl rfl ?_ | refine V_cEq rfl rfl ?_ | refine V_cNe rfl rfl ?_ | refine V_cB rfl rfl (fun _ => ?_) (fun _ => ?_) | refine O_gT' rfl ?_ | refine O_gU' rfl ?_ | refine O_gF' rfl rfl ?_ | refine O_gEq rfl ?_ | refine O_gNe rfl ?_ | refine O_gS rfl (fun _ => ?_) (fun _ => ?_) | refine V_fA rfl rfl ?_ | refine V_fAN rfl rfl ?_ | refine V_D rfl ?_ | refine D_step rfl ?_ | refine D_nil' ?_ | refine D_gT' rfl ?_ | refine D_gU' rfl ?_ | refine D_gF' rfl rfl ?_ | refine D_gS rfl (fun _ => ?_) (fun _ => ?_)
      rintro x e' st' ⟨rfl, a, rfl⟩
      repeat' first | refine V_O rfl ?_ | refine O_step rfl ?_ | refine O_nil' ?_ | refine V_cT rfl rfl ?_ | refine V_cF rfl rfl ?_ | refine V_cEq rfl rfl ?_ | refine V_cNe rfl rfl ?_ | refine V_cB rfl rfl (fun _ => ?_) (fun _ => ?_) | refine O_gT' rfl ?_ | refine O_gU' rfl ?_ | refine O_gF' rfl rfl ?_ | refine O_gEq rfl ?_ | refine O_gNe rfl ?_ | refine O_gS rfl (fun _ => ?_) (fun _ => ?_) | refine V_fA rfl rfl ?_ | refine V_fAN rfl rfl ?_ | refine V_D rfl ?_ | refine D_step rfl ?_ | refine D_nil' ?_ | refine D_gT' rfl ?_ | refine D_gU' rfl ?_ | refine D_gF' rfl rfl ?_ | refine D_gS rfl (fun _ => ?_) (fun _ => ?_)
      exact ⟨_, rfl⟩
    obtain ⟨r, h1, a, rfl⟩ := h
    exact ⟨a, h1⟩
  intro n
  induction n with
  | zero => exact fun l p hp => main 0 l p (hp.mono fun _ _ _ h => h.elim) (fun l p hp => by
      have hl : l = [] := by
        cases l with
        | nil => rfl
        | cons s r =>
          obtain ⟨cs, _, h⟩ := SL.at hp (j := 0) (s := s) rfl
          exact h.elim
      subst hl
      obtain ⟨lp1, lp2, lp3⟩ := hp.len
      have hlt : ¬ (0 : Int) < (([] : List Stp).length : Int) := by simp
      refine ⟨0, ?_⟩
      refine call_V rfl rfl ?_
      repeat' first | refine O_lenO rfl lp1 lp2 ?_ | refine V_loop rfl (V_unroll ?_) | refine V_O rfl ?_ | refine O_step rfl ?_ | refine O_nil' ?_ | refine V_cT rfl rfl ?_ | refine V_cF rfl rfl ?_ | refine V_cEq rfl rfl ?_ | refine V_cNe rfl rfl ?_ | refine V_cB rfl rfl (fun _ => ?_) (fun _ => ?_) | refine O_gT' rfl ?_ | refine O_gU' rfl ?_ | refine O_gF' rfl rfl ?_ | refine O_gEq rfl ?_ | refine O_gNe rfl ?_ | refine O_gS rfl (fun _ => ?_) (fun _ => ?_) | refine V_fA rfl rfl ?_ | refine V_fAN rfl rfl ?_ | refine V_D rfl ?_ | refine D_step rfl ?_ | refine D_nil' ?_ | refine D_gT' rfl ?_ | refine D_gU' rfl ?_ | refine D_gF' rfl rfl ?_ | refine D_gS rfl (fun _ => ?_) (fun _ => ?_)
      rfl)
  | succ n ih => exact fun l p hp => main n l p hp ih
end Go.Proofs.YtinojffgmgjblaaGreatDoor
