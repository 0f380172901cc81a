/- rewrite.shorter, rewrite.Rewrite. · The statement's few (ramblelaw20): it answers. · rambleref16.Same of equal steps: true. · The small traversal of the statements' begun, in the shorter way. · begun: its text. · begun: true. · RewriteOnce: the law. -/
import Derived.Test.YtnedeokclnbcpaaGreatDoorRwSToRwV
import Derived.Test.YtnedeokclnbcpaaGreatDoorNameBToStpF
import Derived.Test.YtnedeokclnbcpaaGreatDoorRwPToRwT
set_option linter.unusedVariables false
set_option linter.unusedSimpArgs false
namespace Go.Proofs.YtnedeokclnbcpaaGreatDoor
open Go Go.AM Go.RowKit
theorem orId_nil {L : List Stp} (h : L = []) : Zn9 L = [idS] := by subst h; rfl
theorem orId_cons {L : List Stp} (h : L ≠ []) : Zn9 L = L := by
  unfold Zn9
  cases L with
  | nil => exact absurd rfl h
  | cons a r => rfl
set_option maxHeartbeats 4000000 in
theorem Znr : ∀ n : Nat, Zkw n
  | 0, l, p, F, st, hT, hok, hcn, hF => by
    obtain ⟨_, rfl, _⟩ := hT
    cases hok
  | n + 1, l, p, F, st, hT, hok, hcn, hF => by
    obtain ⟨hne, hokA⟩ := okL_all.1 hok
    have hok1 := okL1_all.2 hokA
    obtain ⟨es, Fs, h1, h2, h3, rfl, h5⟩ := ot_tr.1 hT
    rcases h1 with ⟨rfl, rfl⟩ | ⟨tp, gp, rfl, k1, k2⟩
    · exact absurd (List.length_eq_zero_iff.1 (by simpa using h2.symm)) hne
    obtain ⟨S0, hS0⟩ : ∃ S : St, (⟨st.next, st.next, st.toks⟩ : St) = S := ⟨_, rfl⟩
    have n0 : S0.next = st.next := by rw [← hS0]
    have b0 : S0.base = st.next := by rw [← hS0]
    have g0 : ∀ u, S0.get u = st.get u := fun u => by rw [← hS0]; rfl
    have hnd : (tp :: Fs.flatten).Nodup := hF.1
    have hFb : ∀ u ∈ tp :: Fs.flatten, u < st.next := fun u hu => (hF.2 u hu).2
    have hlp := sstep_loop (Znr n) hok1 hcn h2 h3 (gp := gp) (b := st.next) hnd hFb l [] [] S0 .nilSl rfl ((g0 tp).trans k1) (fun j s cs G _ e1 e2 e3 => StpT.mono n _ _ _ _ _ (h5 j s cs G e1 e2 e3) (by omega) fun u _ => g0 u) (OwnL.nil _ _) (fun u hu => by cases hu) (by omega) (fun x hx => by cases hx) (Nat.le_refl _)
    have hid := Zj1
    rw [h2]
    rw [hS0]
    refine Zcg (Q := fun v' st' => Res (n + 1) st' v' (rwL l) ∧ st'.base = st.next ∧ st.next ≤ st'.next ∧ (∀ u, Z0i v' = some u → st.next ≤ u) ∧ ∀ u, u < st.next → u ∉ tp :: Fs.flatten → st'.get u = st.get u) rfl rfl ?_
    repeat' first | refine Z0h rfl hlp ⟨rfl, rfl, rfl, rfl, trivial⟩ ?_ | refine Z1 rfl ?_ | refine Z0 rfl ?_ | refine Z2 ?_
    rintro x e st' ⟨rfl, v', rfl, z1, z2, z3, z4, z5⟩
    obtain ⟨f1, f2⟩ := z1.len
    by_cases hnil : (rwA l []).reverse = []
    · have hr : rwL l = [idS] := orId_nil hnil
      have hres : Res (n + 1) st' (.sl [idC] true) (rwL l) := by
        rw [hr]
        exact .inr (sl_one (sc_id n))
      have hc6 := (sc_id n).c6
      have htok : ∀ u, Z0i (.sl [idC] true) = some u → st.next ≤ u := fun u hu => by cases hu
      have d1 := Z0g (p := (((rwA l []).reverse.length : Nat) : Int) = 0) (by rw [hnil]; rfl)
      repeat' first | ((with_reducible show V _ _ _ _ _ _); first | refine Z6r rfl rfl ⟨hres, z3.trans b0, by omega, htok, fun u hu hn => (z5 u hu hn).trans (g0 u)⟩ | refine Z1 rfl ?_ | refine Za rfl rfl ?_) | ((with_reducible show VO _ _ _ _ _ _ _); first | refine Z8 rfl f1 f2 ?_ | refine Z5 d1 rfl ?_ | refine Z7 rfl rfl hid ?_ | refine Z0 (Zdp hc6 rfl) ?_ | refine Z0 rfl ?_ | refine Z2 ?_)
    · have hr : rwL l = (rwA l []).reverse := orId_cons hnil
      have hres : Res (n + 1) st' v' (rwL l) := by
        rw [hr]
        exact .inl z1
      have hlen0 : (rwA l []).reverse.length ≠ 0 := fun h => hnil (List.length_eq_zero_iff.1 h)
      have d1 := Zi (p := (((rwA l []).reverse.length : Nat) : Int) = 0) (by omega)
      repeat' first | ((with_reducible show V _ _ _ _ _ _); first | refine Z6r rfl rfl ⟨hres, z3.trans b0, by omega, z2, fun u hu hn => (z5 u hu hn).trans (g0 u)⟩ | refine Z1 rfl ?_ | refine Zb rfl rfl ?_) | ((with_reducible show VO _ _ _ _ _ _ _); first | refine Z8 rfl f1 f2 ?_ | refine Z5 d1 rfl ?_ | refine Z0 rfl ?_ | refine Z2 ?_)
theorem Res.view {n : Nat} {st : St} {v : PV} {L : List Stp} (h : Res n st v L) (hl : L.length ≤ 134217728) : ∃ q, View true st.get v q ∧ SL n q L := by
  rcases h with h | h
  · exact h.view (by omega)
  · exact ⟨v, (SL.pl h).view, h⟩
theorem view_two {look : Nat → Option Tok} {v q : PV} (h : View true look v q) (k : Int) : View true look (.tuple [v, .int .i64 k]) (.tuple [q, .int .i64 k]) := .tuple _ _ rfl (fun i c d h1 h2 => by
  match i, h1, h2 with
  | 0, h1, h2 => simp at h1 h2; subst h1 h2; exact h
  | 1, h1, h2 => simp at h1 h2; subst h1 h2; exact .int _ _
  | i + 2, h1, h2 => simp at h1)
theorem chk_okX {l : List Stp} (h : Zkt l = 0) : okL l = true := by
  unfold Zkt at h
  cases hok : okL l with
  | true => rfl
  | false => rw [hok] at h; simp at h
set_option maxHeartbeats 4000000 in
theorem Zf6 {n : Nat} {l : List Stp} {p : PV} (hp : SL n p l) (hcn : Zg l ≤ 134217728) : ∃ q, T.R (.call Zag [p] (.tuple [q, .int .i64 (Zkt l)])) ∧ ((Zkt l = 0 ∧ SL n q (rwL l)) ∨ (Zkt l ≠ 0 ∧ q = .nilSl)) := by
  have hch := run_PCheck hp
  have plp := SL.pl hp
  have key : ∃ r, T.R (.call Zag [p] r) ∧ ∃ q, r = .tuple [q, .int .i64 (Zkt l)] ∧ ((Zkt l = 0 ∧ SL n q (rwL l)) ∨ (Zkt l ≠ 0 ∧ q = .nilSl)) := by
    by_cases h0 : Zkt l = 0
    · have hok := chk_okX h0
      obtain ⟨hne, hokA⟩ := okL_all.1 hok
      obtain ⟨v1, st1, F, c1, c2, c3, c4⟩ := cloneRaw n l p hp (okL1_all.2 hokA) hcn emptySt
      obtain ⟨S1, hS1⟩ : ∃ S : St, (⟨0, st1.next, st1.toks⟩ : St) = S := ⟨_, rfl⟩
      have w1 : OT n S1 v1 l F := c2.keep n (by rw [← hS1]; exact Nat.le_refl _) (fun u _ => by rw [← hS1]; rfl)
      have f1 : Fsh 0 F S1 := ⟨c3.1, fun u hu => ⟨Nat.zero_le _, by rw [← hS1]; exact (c3.2 u hu).2⟩⟩
      obtain ⟨v2, st2, r1, r2, r3, r4, r5, r6⟩ := Znr n l v1 F S1 w1 hok hcn f1
      obtain ⟨S2, hS2⟩ : ∃ S : St, (⟨S1.base, st2.next, st2.toks⟩ : St) = S := ⟨_, rfl⟩
      have w2 : Res n S2 v2 (rwL l) := r2.keep (by rw [← hS2]; exact Nat.le_refl _) (fun u _ => by rw [← hS2]; rfl)
      obtain ⟨q, x1, x2⟩ := w2.view (Nat.le_trans (Zhk _) (Nat.le_trans (rwL_cnt hok) hcn))
      have hv := view_two x1 0
      rw [h0] at hch ⊢
      refine Z9v rfl rfl ?_
      repeat' first | ((with_reducible show V _ _ _ _ _ _); first | refine Zmy rfl rfl hv ⟨q, rfl, .inl ⟨rfl, x2⟩⟩ | refine Z1 rfl ?_ | refine Zb rfl rfl ?_) | ((with_reducible show VO _ _ _ _ _ _ _); first | refine Z7 rfl rfl hch ?_ | refine O_rawE c1 c4.1 hS1 rfl rfl ?_ | refine O_rawE r1 r3 hS2 rfl rfl ?_ | refine Z0 rfl ?_ | refine Z2 ?_)
    · have d1 := Z2l (p := Zkt l = 0) h0
      refine Z9v rfl rfl ?_
      repeat' first | ((with_reducible show V _ _ _ _ _ _); first | refine Zmy rfl rfl (view_two .nilSl _) ⟨.nilSl, rfl, .inr ⟨h0, rfl⟩⟩ | refine Z1 rfl ?_ | refine Za rfl rfl ?_) | ((with_reducible show VO _ _ _ _ _ _ _); first | refine Z7 rfl rfl hch ?_ | refine Z5 d1 rfl ?_ | refine Z0 rfl ?_ | refine Z2 ?_)
  obtain ⟨r, r1, q, rfl, r2⟩ := key
  exact ⟨q, r1, r2⟩
theorem sc_opn : ∀ {n : Nat} {op : Int} {names : List (List UInt8)} {nums : List Int} {preds : List Prd} {vals : List Val} {subs : List (List Stp)} {cs : List PV}, SC n (.mk op names nums preds vals subs) cs →
    ∃ m pa pb pc pd pe, n = m + 1 ∧ Zp op ∧ cs = [.int .i64 op, pa, pb, pc, pd, pe] ∧ LR NmC pa names ∧ LR NuC pb nums ∧ LR PrC pc preds ∧ LR VC pd vals ∧ LR (SubC (SC m)) pe subs ∧ Pl pa ∧ Pl pb ∧ Pl pc ∧ Pl pd ∧ Pl pe
  | 0, _, _, _, _, _, _, _, h => h.elim
  | n + 1, op, names, nums, preds, vals, subs, cs, h => by
    have plcs := h.pl
    obtain ⟨ho, pa, pb, pc, pd, pe, rfl, h1, h2, h3, h4, h5⟩ := h
    exact ⟨n, pa, pb, pc, pd, pe, rfl, ho, rfl, h1, h2, h3, h4, h5, plcs _ (by simp), plcs _ (by simp), plcs _ (by simp), plcs _ (by simp), plcs _ (by simp)⟩
theorem few_in {n : Nat} {pe : PV} {subs : List (List Stp)} (hp : LR (SubC (SC n)) pe subs) (d : Int) (st : St) (hd : ∀ x ∈ subs, ∀ q, SL n q x → ∃ b : Bool, T.R (.call Z14 [q, .int .i64 (wr d)] (.bool b))) (p p0 : PV) (L I : Int) (plp : Pl p) (plp0 : Pl p0) :
    ∀ (rest pre : List (List Stp)), subs = pre ++ rest →
    V T (PE fun x e st' => st' = st ∧ ((x = .exit 2 ∧ e = Zj [(0, p0), (1, .int .i64 d), (16, p), (17, .int .i64 L), (18, .int .i64 I)]) ∨ (x = .ret ∧ e = Zj [(4, .bool false)])))
      [.code (.loop Z78)] .normal (Zj [(0, p0), (1, .int .i64 d), (16, p), (17, .int .i64 L), (18, .int .i64 I), (27, pe), (28, .int .i64 subs.length), (29, .int .i64 pre.length)]) st := by
  have ple : Pl pe := LR.pl hp fun _ _ _ h => h.pl fun _ _ h => h.pl
  obtain ⟨le1, le2, le3⟩ := hp.len
  intro rest
  induction rest with
  | nil =>
    intro pre ha
    have hlt : ¬ (pre.length : Int) < subs.length := by subst ha; simp
    refine Ze ?_
    repeat' first | ((with_reducible show V _ _ _ _ _ _); first | refine Zeg rfl rfl hlt ?_ | refine Z0w [(0, p0), (1, .int .i64 d), (16, p), (17, .int .i64 L), (18, .int .i64 I)] rfl ⟨rfl, rfl, rfl, rfl, rfl, trivial⟩ ⟨rfl, .inl ⟨rfl, rfl⟩⟩ | refine Z1 rfl ?_) | refine Z0 rfl ?_ | refine Z2 ?_
  | cons y rest ih =>
    intro pre ha
    have hlt : (pre.length : Int) < subs.length := by subst ha; simp; omega
    have hll : pre.length < subs.length := by subst ha; simp
    have hy : subs[pre.length]? = some y := by subst ha; simp
    obtain ⟨cy, ay, q, rfl, hq⟩ := hp.at (sz := 1) (fun _ _ h => h.len1) hy
    have plq := SL.pl hq
    obtain ⟨b, hcall⟩ := hd y (by subst ha; simp) q hq
    have hw : IntKind.i64.wrap ((pre.length : Int) + 1) = ((pre ++ [y]).length : Int) := by rw [Z00]; simp; omega
    have hi := ih (pre ++ [y]) (by rw [ha]; simp)
    refine Ze ?_
    cases b with
    | true =>
      repeat' first | ((with_reducible show V _ _ _ _ _ _); first | refine Z2x rfl rfl hlt ?_ | refine Zg8 rfl hi ⟨rfl, rfl, rfl, rfl, rfl, rfl, rfl, Z05 hw, trivial⟩ | refine Z1 rfl ?_ | refine Zb rfl rfl ?_) | ((with_reducible show VO _ _ _ _ _ _ _); first | refine Zt rfl rfl ay ?_ | refine Z7 rfl rfl hcall ?_ | refine Z0 rfl ?_ | refine Z2 ?_)
    | false =>
      repeat' first | ((with_reducible show V _ _ _ _ _ _); first | refine Z2x rfl rfl hlt ?_ | refine Z0w [(4, .bool false)] rfl ⟨rfl, trivial⟩ ⟨rfl, .inr ⟨rfl, rfl⟩⟩ | refine Z1 rfl ?_ | refine Za rfl rfl ?_) | ((with_reducible show VO _ _ _ _ _ _ _); first | refine Zt rfl rfl ay ?_ | refine Z7 rfl rfl hcall ?_ | refine Z0 rfl ?_ | refine Z2 ?_)
theorem few_out {n : Nat} {p : PV} {l : List Stp} (hp : SL n p l) (d : Int) (hd : ∀ m, n = m + 1 → ∀ x, ∀ q, SL m q x → ∃ b : Bool, T.R (.call Z14 [q, .int .i64 (wr d)] (.bool b))) :
    ∀ (rest pre : List Stp), l = pre ++ rest →
    V T (PE fun x e st' => (x = .exit 0 ∧ e = Zj [(0, p)]) ∨ (x = .ret ∧ e = Zj [(4, .bool false)]))
      [.code (.loop Z77)] .normal (Zj [(0, p), (1, .int .i64 d), (16, p), (17, .int .i64 l.length), (18, .int .i64 pre.length)]) emptySt := by
  have plp : Pl p := SL.pl hp
  obtain ⟨lp1, lp2, lp3⟩ := hp.len
  intro rest
  induction rest with
  | nil =>
    intro pre ha
    have hlt : ¬ (pre.length : Int) < l.length := by subst ha; simp
    refine Ze ?_
    repeat' first | ((with_reducible show V _ _ _ _ _ _); first | refine Zeg rfl rfl hlt ?_ | refine Z0w [(0, p)] rfl ⟨rfl, trivial⟩ (.inl ⟨rfl, rfl⟩) | refine Z1 rfl ?_) | refine Z0 rfl ?_ | refine Z2 ?_
  | cons y rest ih =>
    intro pre ha
    have hlt : (pre.length : Int) < l.length := by subst ha; simp; omega
    have hll : pre.length < l.length := by subst ha; simp
    have hy : l[pre.length]? = some y := by subst ha; simp
    obtain ⟨cy, ay, hc⟩ := SL.at hp hy
    have onec := hc.one
    have len6 := hc.len6
    have hw : IntKind.i64.wrap ((pre.length : Int) + 1) = ((pre ++ [y]).length : Int) := by rw [Z00]; simp; omega
    have hi := ih (pre ++ [y]) (by rw [ha]; simp)
    obtain ⟨op, names, nums, preds, vals, subs⟩ := y
    obtain ⟨m, pa, pb, pc, pd, pe, em, ho, rfl, h1, h2, h3, h4, h5, pla, plb, plc, pld, ple⟩ := (sc_opn hc)
    obtain ⟨le1, le2, le3⟩ := h5.len
    have hin := few_in h5 d ((emptySt.new (.var [.int .i64 0, .nilSl, .nilSl, .nilSl, .nilSl, .nilSl])).put 0 (.var [.int .i64 op, pa, pb, pc, pd, pe])) (fun x _ q hq => hd m em x q hq) p p l.length pre.length plp plp subs [] rfl
    refine Ze ?_
    by_cases h40 : (40 : Int) < (subs.length : Int)
    · repeat' first | ((with_reducible show V _ _ _ _ _ _); first | refine Z2x rfl rfl hlt ?_ | refine Z0w [(4, .bool false)] rfl ⟨rfl, trivial⟩ (.inr ⟨rfl, rfl⟩) | refine Z1 rfl ?_ | refine Za rfl rfl ?_) | ((with_reducible show VO _ _ _ _ _ _ _); first | refine Zt rfl rfl ay ?_ | refine Z0n rfl len6 ?_ | refine Z5 (Z0g h40) rfl ?_ | refine Z0 rfl ?_ | refine Z0d rfl rfl onec rfl rfl rfl rfl ?_ | refine Z8 rfl le1 le2 ?_ | refine Zc rfl ?_ | refine Z2 ?_)
    · repeat' first | ((with_reducible show V _ _ _ _ _ _); first | refine Z2x rfl rfl hlt ?_ | refine Z0h rfl hin ⟨rfl, rfl, rfl, rfl, rfl, rfl, rfl, rfl, trivial⟩ ?_ | refine Z1 rfl ?_ | refine Zb rfl rfl ?_) | ((with_reducible show VO _ _ _ _ _ _ _); first | refine Zt rfl rfl ay ?_ | refine Z0n rfl len6 ?_ | refine Z5 (Zi h40) rfl ?_ | refine Z0 rfl ?_ | refine Z0d rfl rfl onec rfl rfl rfl rfl ?_ | refine Z8 rfl le1 le2 ?_ | refine Zc rfl ?_ | refine Z2 ?_)
      rintro x e' st' ⟨rfl, ⟨rfl, rfl⟩ | ⟨rfl, rfl⟩⟩
      · repeat' first | refine V_reF rfl hi rfl ⟨rfl, rfl, rfl, rfl, Z05 hw, trivial⟩ ⟨plp, .int _ _, plp, .int _ _, .int _ _, trivial⟩ | refine Z1 rfl ?_ | refine Z0 rfl ?_ | refine Z2 ?_
      · repeat' first | refine Z0w [(4, .bool false)] rfl ⟨rfl, trivial⟩ (.inr ⟨rfl, rfl⟩)
theorem run_few : ∀ (n : Nat) (l : List Stp) (p : PV) (d : Int), SL n p l → ∃ b : Bool, T.R (.call Z14 [p, .int .i64 d] (.bool b)) := by
  have main : ∀ (n : Nat) (l : List Stp) (p : PV) (d : Int), SL n p l → (∀ m, n = m + 1 → ∀ (l : List Stp) (p : PV) (d : Int), SL m p l → ∃ b : Bool, T.R (.call Z14 [p, .int .i64 d] (.bool b))) → ∃ b : Bool, T.R (.call Z14 [p, .int .i64 d] (.bool b)) := by
    intro n l p d hp ih
    have plp : Pl p := SL.pl hp
    obtain ⟨lp1, lp2, lp3⟩ := hp.len
    have hout := few_out hp d (fun m em x q hq => ih m em x q (wr d) hq) l [] rfl
    have h : ∃ r, T.R (.call Z14 [p, .int .i64 d] r) ∧ ∃ b : Bool, r = .bool b := by
      by_cases h1 : (40 : Int) < (l.length : Int)
      · refine Z9v rfl rfl ?_
        repeat' first | ((with_reducible show V _ _ _ _ _ _); first | refine Z1 rfl ?_ | refine Za rfl rfl ?_ | refine Z4 rfl rfl ?_) | ((with_reducible show VO _ _ _ _ _ _ _); first | refine Z8 rfl lp1 lp2 ?_ | refine Z5 (Z0g h1) rfl ?_ | refine Z0 rfl ?_ | refine Z2 ?_ | refine Zs rfl rfl ?_)
        exact ⟨_, rfl⟩
      · by_cases h2 : (12 : Int) < d
        · refine Z9v rfl rfl ?_
          repeat' first | ((with_reducible show V _ _ _ _ _ _); first | refine Z1 rfl ?_ | refine Za rfl rfl ?_ | refine Z4 rfl rfl ?_) | ((with_reducible show VO _ _ _ _ _ _ _); first | refine Z8 rfl lp1 lp2 ?_ | refine Z5 (Zi h1) rfl ?_ | refine Z5 (Z0g h2) rfl ?_ | refine Z0 rfl ?_ | refine Z2 ?_ | refine Zk rfl ?_)
          exact ⟨_, rfl⟩
        · refine Z9v rfl rfl ?_
          repeat' first | ((with_reducible show V _ _ _ _ _ _); first | refine Z0h rfl hout ⟨rfl, rfl, rfl, rfl, rfl, trivial⟩ ?_ | refine Z1 rfl ?_ | refine Zb rfl rfl ?_) | ((with_reducible show VO _ _ _ _ _ _ _); first | refine Z8 rfl lp1 lp2 ?_ | refine Z5 (Zi h1) rfl ?_ | refine Z5 (Zi h2) rfl ?_ | refine Z0 rfl ?_ | refine Z2 ?_ | refine Zk rfl ?_)
          rintro x e' st' (⟨rfl, rfl⟩ | ⟨rfl, rfl⟩)
          · repeat' first | refine Z1 rfl ?_ | refine Z4 rfl rfl ?_ | refine Z0 rfl ?_ | refine Z2 ?_
            exact ⟨_, rfl⟩
          · repeat' first | refine Z4 rfl rfl ?_
            exact ⟨_, rfl⟩
    obtain ⟨r, h1, a, rfl⟩ := h
    exact ⟨a, h1⟩
  intro n
  induction n with
  | zero => exact fun l p d hp => main 0 l p d hp (fun m e => by omega)
  | succ n ih => exact fun l p d hp => main (n + 1) l p d hp (fun m e => by
      have h : m = n := by omega
      subst h
      exact ih)
theorem run_rsame {l : List Prd} {p q : PV} (hp : LR PrC p l) (hq : LR PrC q l) : T.R (.call Zhf [p, q] (.bool true)) := by
  have plp : Pl p := hp.pl fun _ _ _ h => h.pl
  have plq : Pl q := hq.pl fun _ _ _ h => h.pl
  obtain ⟨p1, p2, hbig⟩ := hp.len
  obtain ⟨q1, q2, _⟩ := hq.len
  have loop : ∀ (rest pre : List Prd), l = pre ++ rest → V T (PE fun x e st' => x = .exit 0 ∧ e = Zj [(0, p)] ∧ st' = emptySt) [.code (.loop Z5y)] .normal (Zj [(0, p), (1, q), (5, .int .i64 pre.length)]) emptySt := by
    intro rest
    induction rest with
    | nil =>
      intro pre hl
      have hlt : decide ((pre.length : Int) < l.length) = false := decide_eq_false (by subst hl; simp)
      refine Ze ?_
      repeat' first | ((with_reducible show V _ _ _ _ _ _); first | refine Z6s hlt rfl rfl ?_ | refine Z0w [(0, p)] rfl ⟨rfl, trivial⟩ ⟨rfl, rfl, rfl⟩ | refine Z1 rfl ?_) | ((with_reducible show VO _ _ _ _ _ _ _); first | refine Z8 rfl p1 p2 ?_ | refine Z0 rfl ?_ | refine Z2 ?_)
    | cons y rest ih =>
      intro pre hl
      have hlt : decide ((pre.length : Int) < l.length) = true := decide_eq_true (by subst hl; simp; omega)
      have hpl : pre.length < l.length := by subst hl; simp
      obtain ⟨cs, ay, hcs⟩ := hp.at (sz := 2) (fun _ _ h => h.c2.1) (j := pre.length) (a := y) (by subst hl; simp)
      obtain ⟨ds, by_, hds⟩ := hq.at (sz := 2) (fun _ _ h => h.c2.1) (j := pre.length) (a := y) (by subst hl; simp)
      obtain ⟨op, vs⟩ := y
      obtain ⟨io, a, rfl, ha⟩ := hcs
      obtain ⟨_, b, rfl, hb⟩ := hds
      have pla : Pl a := ha.pl fun _ _ _ h => h.pl
      have plb : Pl b := hb.pl fun _ _ _ h => h.pl
      have hs := Zla vs vs a b ha hb
      have h0 : decide (Z32 vs vs = 0) = true := decide_eq_true (cmpVs_zero.2 rfl)
      rw [h0] at hs
      have hw : IntKind.i64.wrap ((pre.length : Int) + 1) = ((pre ++ [Prd.mk op vs]).length : Int) := by rw [Z00]; simp; omega
      have hi := ih (pre ++ [.mk op vs]) (by rw [hl]; simp)
      have d1 := Z2b (p := op = op) rfl
      refine Ze ?_
      repeat' first | ((with_reducible show V _ _ _ _ _ _); first | refine Zao hlt rfl rfl ?_ | refine Zg8 rfl hi ⟨rfl, rfl, Z05 hw, trivial⟩ | refine Z1 rfl ?_ | refine Zb rfl rfl ?_ | refine V_D rfl ?_) | ((with_reducible show VO _ _ _ _ _ _ _); first | refine Z8 rfl p1 p2 ?_ | refine Z0 rfl ?_ | refine Z2 ?_) | ((with_reducible show VD _ _ _ _ _ _ _); first | refine Zdq rfl rfl ay ?_ | refine Zdq rfl rfl by_ ?_ | refine D_is d1 rfl ?_ | refine Zoa rfl rfl hs ?_ | refine Z0b rfl ?_ | refine Z1w ?_ | refine D_gT' rfl ?_)
  have hl := loop l [] rfl
  have d1 := Z2b (p := (l.length : Int) = l.length) rfl
  refine Z6 rfl rfl ?_
  repeat' first | ((with_reducible show V _ _ _ _ _ _); first | refine Z0h rfl hl ⟨rfl, rfl, rfl, trivial⟩ ?_ | refine Z1 rfl ?_ | refine Zb rfl rfl ?_) | ((with_reducible show VO _ _ _ _ _ _ _); first | refine Z8 rfl p1 p2 ?_ | refine Z8 rfl q1 q2 ?_ | refine Z5 d1 rfl ?_ | refine Z0 rfl ?_ | refine Z2 ?_)
  rintro x e st' ⟨rfl, rfl, rfl⟩
  repeat' first | refine Z1 rfl ?_ | refine Z4 rfl rfl ?_ | refine Z0 rfl ?_ | refine Z2 ?_
  rfl
theorem ldv {look : Nat → Option Tok} {m k : Nat} {cs : List PV} {c : PV} (hg : look m = some (.var cs)) (hc : cs[k]? = some c) {e : EC} {x : Opd} (hx : x.get e = some (.ptr m k)) : Zo look e (.load 1 false x) = some c := by
  have hlt := (List.getElem?_eq_some_iff.1 hc).1
  refine ld_q hx ?_
  simp only [loadAt, behind, hg, Option.bind_some, slice?]
  rw [if_pos (by omega)]
  simpa using hc
theorem sm_names {S : St} {m m' : Nat} {op : Int} {p q I pa pb pc pd pe qa qb qc qd qe : PV} {l : List (List UInt8)} (hm : S.get m = some (.var [.int .i64 op, pa, pb, pc, pd, pe])) (hm' : S.get m' = some (.var [.int .i64 op, qa, qb, qc, qd, qe])) (ha : LR NmC pa l) (hb : LR NmC qa l) : ∀ (rest pre : List (List UInt8)), l = pre ++ rest →
    V T (PE fun x e st' => x = .exit 2 ∧ e = Zj [(0, p), (1, q), (5, I), (6, .ptr m 0), (7, .ptr m' 0)] ∧ st' = S) [.code (.loop Z60)] .normal (Zj [(0, p), (1, q), (5, I), (6, .ptr m 0), (7, .ptr m' 0), (8, .int .i64 pre.length)]) S := by
  obtain ⟨a1, a2, hbig⟩ := ha.len
  intro rest
  induction rest with
  | nil =>
    intro pre hl
    have hlt : decide ((pre.length : Int) < l.length) = false := decide_eq_false (by subst hl; simp)
    refine Ze ?_
    repeat' first | ((with_reducible show V _ _ _ _ _ _); first | refine Z6s hlt rfl rfl ?_ | refine Z0w [(0, p), (1, q), (5, I), (6, .ptr m 0), (7, .ptr m' 0)] rfl ⟨rfl, rfl, rfl, rfl, rfl, trivial⟩ ⟨rfl, rfl, rfl⟩ | refine Z1 rfl ?_) | ((with_reducible show VO _ _ _ _ _ _ _); first | refine Z0 (ldv hm rfl rfl) ?_ | refine Z8 rfl a1 a2 ?_ | refine Z0 rfl ?_ | refine Z2 ?_)
  | cons y rest ih =>
    intro pre hl
    have hlt : decide ((pre.length : Int) < l.length) = true := decide_eq_true (by subst hl; simp; omega)
    have hpl : pre.length < l.length := by subst hl; simp
    obtain ⟨cs, ay, hcs⟩ := ha.at (sz := 1) (fun _ _ h => h.len1) (j := pre.length) (a := y) (by subst hl; simp)
    obtain ⟨ds, by_, hds⟩ := hb.at (sz := 1) (fun _ _ h => h.len1) (j := pre.length) (a := y) (by subst hl; simp)
    obtain ⟨_, rfl⟩ := hcs
    obtain ⟨_, rfl⟩ := hds
    have hw : IntKind.i64.wrap ((pre.length : Int) + 1) = ((pre ++ [y]).length : Int) := by rw [Z00]; simp; omega
    have hi := ih (pre ++ [y]) (by rw [hl]; simp)
    have d1 := Z2b (p := y = y) rfl
    refine Ze ?_
    repeat' first | ((with_reducible show V _ _ _ _ _ _); first | refine Zao hlt rfl rfl ?_ | refine Zg8 rfl hi ⟨rfl, rfl, rfl, rfl, rfl, Z05 hw, trivial⟩ | refine Z1 rfl ?_ | refine Zb rfl rfl ?_ | refine V_D rfl ?_) | ((with_reducible show VO _ _ _ _ _ _ _); first | refine Z0 (ldv hm rfl rfl) ?_ | refine Z8 rfl a1 a2 ?_ | refine Z0 rfl ?_ | refine Z2 ?_) | ((with_reducible show VD _ _ _ _ _ _ _); first | refine Z0b (ldv hm rfl rfl) ?_ | refine Z0b (ldv hm' rfl rfl) ?_ | refine Zdq rfl rfl ay ?_ | refine Zdq rfl rfl by_ ?_ | refine D_is d1 rfl ?_ | refine Z0b rfl ?_ | refine Z1w ?_)
theorem sm_nums {S : St} {m m' : Nat} {op : Int} {p q I pa pb pc pd pe qa qb qc qd qe : PV} {l : List Int} (hm : S.get m = some (.var [.int .i64 op, pa, pb, pc, pd, pe])) (hm' : S.get m' = some (.var [.int .i64 op, qa, qb, qc, qd, qe])) (ha : LR NuC pb l) (hb : LR NuC qb l) : ∀ (rest pre : List Int), l = pre ++ rest →
    V T (PE fun x e st' => x = .exit 4 ∧ e = Zj [(0, p), (1, q), (5, I), (6, .ptr m 0), (7, .ptr m' 0)] ∧ st' = S) [.code (.loop Z61)] .normal (Zj [(0, p), (1, q), (5, I), (6, .ptr m 0), (7, .ptr m' 0), (9, .int .i64 pre.length)]) S := by
  obtain ⟨a1, a2, hbig⟩ := ha.len
  intro rest
  induction rest with
  | nil =>
    intro pre hl
    have hlt : decide ((pre.length : Int) < l.length) = false := decide_eq_false (by subst hl; simp)
    refine Ze ?_
    repeat' first | ((with_reducible show V _ _ _ _ _ _); first | refine Z6s hlt rfl rfl ?_ | refine Z0w [(0, p), (1, q), (5, I), (6, .ptr m 0), (7, .ptr m' 0)] rfl ⟨rfl, rfl, rfl, rfl, rfl, trivial⟩ ⟨rfl, rfl, rfl⟩ | refine Z1 rfl ?_) | ((with_reducible show VO _ _ _ _ _ _ _); first | refine Z0 (ldv hm rfl rfl) ?_ | refine Z8 rfl a1 a2 ?_ | refine Z0 rfl ?_ | refine Z2 ?_)
  | cons y rest ih =>
    intro pre hl
    have hlt : decide ((pre.length : Int) < l.length) = true := decide_eq_true (by subst hl; simp; omega)
    have hpl : pre.length < l.length := by subst hl; simp
    obtain ⟨cs, ay, hcs⟩ := ha.at (sz := 1) (fun _ _ h => h.len1) (j := pre.length) (a := y) (by subst hl; simp)
    obtain ⟨ds, by_, hds⟩ := hb.at (sz := 1) (fun _ _ h => h.len1) (j := pre.length) (a := y) (by subst hl; simp)
    obtain ⟨_, rfl⟩ := hcs
    obtain ⟨_, rfl⟩ := hds
    have hw : IntKind.i64.wrap ((pre.length : Int) + 1) = ((pre ++ [y]).length : Int) := by rw [Z00]; simp; omega
    have hi := ih (pre ++ [y]) (by rw [hl]; simp)
    have d1 := Z2b (p := y = y) rfl
    refine Ze ?_
    repeat' first | ((with_reducible show V _ _ _ _ _ _); first | refine Zao hlt rfl rfl ?_ | refine Zg8 rfl hi ⟨rfl, rfl, rfl, rfl, rfl, Z05 hw, trivial⟩ | refine Z1 rfl ?_ | refine Zb rfl rfl ?_ | refine V_D rfl ?_) | ((with_reducible show VO _ _ _ _ _ _ _); first | refine Z0 (ldv hm rfl rfl) ?_ | refine Z8 rfl a1 a2 ?_ | refine Z0 rfl ?_ | refine Z2 ?_) | ((with_reducible show VD _ _ _ _ _ _ _); first | refine Z0b (ldv hm rfl rfl) ?_ | refine Z0b (ldv hm' rfl rfl) ?_ | refine Zdq rfl rfl ay ?_ | refine Zdq rfl rfl by_ ?_ | refine D_is d1 rfl ?_ | refine Z0b rfl ?_ | refine Z1w ?_)
theorem sm_subs {n : Nat} {S : St} {m m' : Nat} {op : Int} {p q I pa pb pc pd pe qa qb qc qd qe : PV} {l : List (List Stp)} (hm : S.get m = some (.var [.int .i64 op, pa, pb, pc, pd, pe])) (hm' : S.get m' = some (.var [.int .i64 op, qa, qb, qc, qd, qe])) (ha : LR (SubC (SC n)) pe l) (hb : LR (SubC (SC n)) qe l) (ihs : ∀ (x : List Stp) (v w : PV), SL n v x → SL n w x → T.R (.call Z9d [v, w] (.bool true))) : ∀ (rest pre : List (List Stp)), l = pre ++ rest →
    V T (PE fun x e st' => x = .exit 6 ∧ e = Zj [(0, p), (1, q), (5, I)] ∧ st' = S) [.code (.loop Z62)] .normal (Zj [(0, p), (1, q), (5, I), (6, .ptr m 0), (7, .ptr m' 0), (10, .int .i64 pre.length)]) S := by
  obtain ⟨a1, a2, hbig⟩ := ha.len
  intro rest
  induction rest with
  | nil =>
    intro pre hl
    have hlt : decide ((pre.length : Int) < l.length) = false := decide_eq_false (by subst hl; simp)
    refine Ze ?_
    repeat' first | ((with_reducible show V _ _ _ _ _ _); first | refine Z6s hlt rfl rfl ?_ | refine Z0w [(0, p), (1, q), (5, I)] rfl ⟨rfl, rfl, rfl, trivial⟩ ⟨rfl, rfl, rfl⟩ | refine Z1 rfl ?_) | ((with_reducible show VO _ _ _ _ _ _ _); first | refine Z0 (ldv hm rfl rfl) ?_ | refine Z8 rfl a1 a2 ?_ | refine Z0 rfl ?_ | refine Z2 ?_)
  | cons y rest ih =>
    intro pre hl
    have hlt : decide ((pre.length : Int) < l.length) = true := decide_eq_true (by subst hl; simp; omega)
    have hpl : pre.length < l.length := by subst hl; simp
    obtain ⟨cs, ay, hcs⟩ := ha.at (sz := 1) (fun _ _ h => by obtain ⟨_, rfl, _⟩ := h; rfl) (j := pre.length) (a := y) (by subst hl; simp)
    obtain ⟨ds, by_, hds⟩ := hb.at (sz := 1) (fun _ _ h => by obtain ⟨_, rfl, _⟩ := h; rfl) (j := pre.length) (a := y) (by subst hl; simp)
    obtain ⟨v, rfl, hv⟩ := hcs
    obtain ⟨w, rfl, hw'⟩ := hds
    have plv : Pl v := SL.pl hv
    have plw : Pl w := SL.pl hw'
    have hs := ihs y v w hv hw'
    have hw : IntKind.i64.wrap ((pre.length : Int) + 1) = ((pre ++ [y]).length : Int) := by rw [Z00]; simp; omega
    have hi := ih (pre ++ [y]) (by rw [hl]; simp)
    refine Ze ?_
    repeat' first | ((with_reducible show V _ _ _ _ _ _); first | refine Zao hlt rfl rfl ?_ | refine Zg8 rfl hi ⟨rfl, rfl, rfl, rfl, rfl, Z05 hw, trivial⟩ | refine Z1 rfl ?_ | refine Zb rfl rfl ?_ | refine V_D rfl ?_) | ((with_reducible show VO _ _ _ _ _ _ _); first | refine Z0 (ldv hm rfl rfl) ?_ | refine Z8 rfl a1 a2 ?_ | refine Z0 rfl ?_ | refine Z2 ?_) | ((with_reducible show VD _ _ _ _ _ _ _); first | refine Z0b (ldv hm rfl rfl) ?_ | refine Z0b (ldv hm' rfl rfl) ?_ | refine Zdq rfl rfl ay ?_ | refine Zdq rfl rfl by_ ?_ | refine Zoa rfl rfl hs ?_ | refine Z0b rfl ?_ | refine Z1w ?_)
set_option maxHeartbeats 4000000 in
theorem run_rSame : ∀ (n : Nat) (l : List Stp) (p q : PV), SL n p l → SL n q l → T.R (.call Z9d [p, q] (.bool true)) := by
  intro n
  induction n with
  | zero =>
    intro l p q hp hq
    have : l = [] := by
      cases l with
      | nil => rfl
      | cons s r =>
        obtain ⟨cs, _, h⟩ := SL.at hp (j := 0) (s := s) rfl
        exact h.elim
    subst this
    obtain ⟨p1, p2, _⟩ := hp.len
    obtain ⟨q1, q2, _⟩ := hq.len
    have d1 := Z2b (p := ((([] : List Stp).length : Nat) : Int) = (([] : List Stp).length : Nat)) rfl
    have hlt : decide ((0 : Int) < (([] : List Stp).length : Int)) = false := by decide
    refine Z6 rfl rfl ?_
    repeat' first | ((with_reducible show V _ _ _ _ _ _); first | refine Z9m rfl (Ze ?_) | refine Z6s hlt rfl rfl ?_ | refine Z1 rfl ?_ | refine Z4 rfl rfl ?_) | ((with_reducible show VO _ _ _ _ _ _ _); first | refine Z8 rfl p1 p2 ?_ | refine Z8 rfl q1 q2 ?_ | refine Z5 d1 rfl ?_ | refine Z0 rfl ?_ | refine Z2 ?_)
    rfl
  | succ n ihn =>
    intro l p q hp hq
    obtain ⟨p1, p2, hbig⟩ := hp.len
    obtain ⟨q1, q2, _⟩ := hq.len
    have plp := SL.pl hp
    have plq := SL.pl hq
    have loop : ∀ (rest pre : List Stp) (st : St), l = pre ++ rest → V T (PE fun x e st' => x = .exit 0 ∧ e = Zj [(0, p)]) [.code (.loop Z5z)] .normal (Zj [(0, p), (1, q), (5, .int .i64 pre.length)]) st := by
      intro rest
      induction rest with
      | nil =>
        intro pre st hl
        have hlt : decide ((pre.length : Int) < l.length) = false := decide_eq_false (by subst hl; simp)
        refine Ze ?_
        repeat' first | ((with_reducible show V _ _ _ _ _ _); first | refine Z6s hlt rfl rfl ?_ | refine Z0w [(0, p)] rfl ⟨rfl, trivial⟩ ⟨rfl, rfl⟩ | refine Z1 rfl ?_) | ((with_reducible show VO _ _ _ _ _ _ _); first | refine Z8 rfl p1 p2 ?_ | refine Z0 rfl ?_ | refine Z2 ?_)
      | cons y rest ih =>
        intro pre st hl
        have hlt : decide ((pre.length : Int) < l.length) = true := decide_eq_true (by subst hl; simp; omega)
        have hpl : pre.length < l.length := by subst hl; simp
        obtain ⟨cs, ay, hcs⟩ := SL.at hp (j := pre.length) (s := y) (by subst hl; simp)
        obtain ⟨ds, by_, hds⟩ := SL.at hq (j := pre.length) (s := y) (by subst hl; simp)
        have c6 := hcs.len6
        have c1 := hcs.one
        have d6 := hds.len6
        have d1' := hds.one
        obtain ⟨op, names, nums, preds, vals, subs⟩ := y
        obtain ⟨io, pa, pb, pc, pd, pe, rfl, ha, hb, hc, hd, he⟩ := hcs
        obtain ⟨_, qa, qb, qc, qd, qe, rfl, ha', hb', hc', hd', he'⟩ := hds
        obtain ⟨la1, la2, _⟩ := ha.len
        obtain ⟨lb1, lb2, _⟩ := hb.len
        obtain ⟨le1, le2, _⟩ := he.len
        obtain ⟨ma1, ma2, _⟩ := ha'.len
        obtain ⟨mb1, mb2, _⟩ := hb'.len
        obtain ⟨me1, me2, _⟩ := he'.len
        have plc : Pl pc := hc.pl fun _ _ _ h => h.pl
        have plc' : Pl qc := hc'.pl fun _ _ _ h => h.pl
        have pld : Pl pd := hd.pl fun _ _ _ h => h.pl
        have pld' : Pl qd := hd'.pl fun _ _ _ h => h.pl
        have hsp := run_rsame hc hc'
        have hsv := Zla vals vals pd qd hd hd'
        rw [decide_eq_true (cmpVs_zero.2 rfl)] at hsv
        obtain ⟨S1, hS1⟩ : ∃ S, st.new (.var z6) = S := ⟨_, rfl⟩
        have a1 : S1.get st.next = some (.var z6) := by rw [← hS1]; exact St.get_new
        have n1 : S1.next = st.next + 1 := by rw [← hS1]; rfl
        obtain ⟨S2, hS2⟩ : ∃ S, S1.put st.next (.var [.int .i64 op, pa, pb, pc, pd, pe]) = S := ⟨_, rfl⟩
        have a2 : S2.get st.next = some (.var [.int .i64 op, pa, pb, pc, pd, pe]) := by rw [← hS2]; exact St.get_put
        have n2 : S2.next = st.next + 1 := by rw [← hS2]; exact n1
        obtain ⟨S3, hS3⟩ : ∃ S, S2.new (.var z6) = S := ⟨_, rfl⟩
        have b3 : S3.get (st.next + 1) = some (.var z6) := by rw [← hS3, ← n2]; exact St.get_new
        have a3 : S3.get st.next = some (.var [.int .i64 op, pa, pb, pc, pd, pe]) := by rw [← hS3]; exact (St.get_new_old (by omega)).trans a2
        obtain ⟨S4, hS4⟩ : ∃ S, S3.put (st.next + 1) (.var [.int .i64 op, qa, qb, qc, qd, qe]) = S := ⟨_, rfl⟩
        have b4 : S4.get (st.next + 1) = some (.var [.int .i64 op, qa, qb, qc, qd, qe]) := by rw [← hS4]; exact St.get_put
        have a4 : S4.get st.next = some (.var [.int .i64 op, pa, pb, pc, pd, pe]) := by rw [← hS4]; exact (St.get_put_old (by omega)).trans a3
        have hw : IntKind.i64.wrap ((pre.length : Int) + 1) = ((pre ++ [Stp.mk op names nums preds vals subs]).length : Int) := by rw [Z00]; simp; omega
        have hi := ih (pre ++ [.mk op names nums preds vals subs]) S4 (by rw [hl]; simp)
        have hz : z6.length = 6 := rfl
        have dop := Z2b (p := op = op) rfl
        have dna := Z2b (p := (names.length : Int) = names.length) rfl
        have dnu := Z2b (p := (nums.length : Int) = nums.length) rfl
        have dsu := Z2b (p := (subs.length : Int) = subs.length) rfl
        have l1 := sm_names (p := p) (q := q) (I := .int .i64 pre.length) a4 b4 ha ha' names [] rfl
        have l2 := sm_nums (p := p) (q := q) (I := .int .i64 pre.length) a4 b4 hb hb' nums [] rfl
        have l3 := sm_subs (p := p) (q := q) (I := .int .i64 pre.length) a4 b4 he he' ihn subs [] rfl
        refine Ze ?_
        repeat' first | ((with_reducible show V _ _ _ _ _ _); first | refine Zao hlt rfl rfl ?_ | refine Z0h rfl l1 ⟨rfl, rfl, rfl, rfl, rfl, rfl, trivial⟩ ?_ | refine Z1 rfl ?_ | refine Zb rfl rfl ?_) | ((with_reducible show VO _ _ _ _ _ _ _); first | refine Z8 rfl p1 p2 ?_ | refine Zt rfl rfl ay ?_ | refine Zt rfl rfl by_ ?_ | refine Z0n rfl c6 ?_ | refine Z5h hS1 rfl ?_ | refine Z5h hS3 n2 ?_ | refine Zb7 hS2 a1 c1 rfl hz rfl rfl rfl ?_ | refine Zb7 hS4 b3 d1' rfl hz rfl rfl rfl ?_ | refine Z0 (ldv a4 rfl rfl) ?_ | refine Z0 (ldv b4 rfl rfl) ?_ | refine Z8 rfl la1 la2 ?_ | refine Z8 rfl lb1 lb2 ?_ | refine Z8 rfl le1 le2 ?_ | refine Z8 rfl ma1 ma2 ?_ | refine Z8 rfl mb1 mb2 ?_ | refine Z8 rfl me1 me2 ?_ | refine Z5 dop rfl ?_ | refine Z5 dna rfl ?_ | refine Z5 dnu rfl ?_ | refine Z5 dsu rfl ?_ | refine Z7 rfl rfl hsp ?_ | refine Z7 rfl rfl hsv ?_ | refine Z0 rfl ?_ | refine Z2 ?_ | refine Zk rfl ?_)
        rintro x e st' ⟨rfl, rfl, rfl⟩
        repeat' first | refine Z0h rfl l2 ⟨rfl, rfl, rfl, rfl, rfl, rfl, trivial⟩ ?_ | refine Z1 rfl ?_ | refine Z0 rfl ?_ | refine Z2 ?_
        rintro x e st' ⟨rfl, rfl, rfl⟩
        repeat' first | refine Z0h rfl l3 ⟨rfl, rfl, rfl, rfl, rfl, rfl, trivial⟩ ?_ | refine Z1 rfl ?_ | refine Z0 rfl ?_ | refine Z2 ?_
        rintro x e st' ⟨rfl, rfl, rfl⟩
        repeat' first | refine Zg8 rfl hi ⟨rfl, rfl, Z05 hw, trivial⟩ | refine Z1 rfl ?_ | refine Z0 rfl ?_ | refine Z2 ?_
    have hl := loop l [] emptySt rfl
    have d1 := Z2b (p := (l.length : Int) = l.length) rfl
    refine Z6 rfl rfl ?_
    repeat' first | ((with_reducible show V _ _ _ _ _ _); first | refine Z0h rfl hl ⟨rfl, rfl, rfl, trivial⟩ ?_ | refine Z1 rfl ?_ | refine Zb rfl rfl ?_) | ((with_reducible show VO _ _ _ _ _ _ _); first | refine Z8 rfl p1 p2 ?_ | refine Z8 rfl q1 q2 ?_ | refine Z5 d1 rfl ?_ | refine Z0 rfl ?_ | refine Z2 ?_)
    rintro x e st' ⟨rfl, rfl⟩
    repeat' first | refine Z1 rfl ?_ | refine Z4 rfl rfl ?_ | refine Z0 rfl ?_ | refine Z2 ?_
    rfl
def bgL : List Stp := [Zf 1 [], Zf 60 [], Zf 24 [], Zf 24 [], Zf 21 [[Zf 21 [[Zf 5 [], Zf 44 []]]]]]
def bgM : List Stp := [Zf 1 [], Zf 24 [], Zf 20 [[Zf 5 []]]]
theorem sim1 {o : Int} {subs : List (List Stp)} (h : rlS (Zf o subs) = none) : Z6a (Zf o subs) = Zf o subs := Z41 h
theorem Zgp {a s : Stp} {r : List Stp} (h : (Z6a s).op ≠ 60) (hj : Zal a (Z6a s) = none) : Za3 (a :: r) s = Z6a s :: a :: r := by
  rw [Za3, if_neg h, hj]
theorem putR_some {a s x : Stp} {r : List Stp} (h : (Z6a s).op ≠ 60) (hj : Zal a (Z6a s) = some x) : Za3 (a :: r) s = Za3 r x := by
  rw [Za3, if_neg h, hj]
theorem putR_one {s : Stp} (h : (Z6a s).op ≠ 60) : Za3 [] s = [Z6a s] := by
  rw [Za3, if_neg h]
theorem join_ne {a b : Stp} (h1 : ordB a.op = false) (h2 : a.op ≠ b.op) : Zal a b = none := by
  unfold Zal
  rw [if_neg (by rw [h1]; decide), if_pos h2]
theorem join_ded : Zal (Zf 24 []) (Zf 24 []) = some (Zf 24 []) := by
  unfold Zal
  rw [if_neg (by decide), if_neg (by simp)]
  exact if_pos (by decide)
theorem rwS_mk (o : Int) (subs : List (List Stp)) : rwS (Zf o subs) = Zf o (Z8k o 0 subs) := by
  unfold Zf
  rw [rwS]
theorem Zl5 (o : Int) : rwS (Zf o []) = Zf o [] := by rw [rwS_mk, Z8k]
theorem bg_in : Z8k 21 0 [[Zf 5 [], Zf 44 []]] = [[Zf 5 []]] := by
  have e5 : Z6a (Zf 5 []) = Zf 5 [] := sim1 rfl
  have e44 : Z6a (Zf 44 []) = Zf 44 [] := sim1 rfl
  rw [Z8k, Z8k, rwA, rwA, rwA, Zl5, Zl5, putR_one (by rw [e5]; decide), e5, Zgp (by rw [e44]; decide) (by rw [e44]; exact join_ne rfl (by decide)), e44]
  rfl
theorem bg_not : Z8k 21 0 [[Zf 21 [[Zf 5 [], Zf 44 []]]]] = [[Zf 21 [[Zf 5 []]]]] := by
  have e : Z6a (Zf 21 [[Zf 5 []]]) = Zf 21 [[Zf 5 []]] := sim1 rfl
  rw [Z8k, Z8k, rwA, rwA, rwS_mk, bg_in, putR_one (by rw [e]; decide), e]
  rfl
theorem rwL_begun : rwL bgL = bgM := by
  have e1 : Z6a (Zf 1 []) = Zf 1 [] := sim1 rfl
  have e60 : Z6a (Zf 60 []) = Zf 60 [] := sim1 rfl
  have e24 : Z6a (Zf 24 []) = Zf 24 [] := sim1 rfl
  have e20 : Z6a (Zf 20 [[Zf 5 []]]) = Zf 20 [[Zf 5 []]] := sim1 rfl
  have e21 : Z6a (Zf 21 [[Zf 21 [[Zf 5 []]]]]) = Zf 20 [[Zf 5 []]] := by
    rw [Z7r (x := Zf 20 [[Zf 5 []]]) rfl, e20]
  have p60 : Za3 [Zf 1 []] (Zf 60 []) = [Zf 1 []] := by rw [Za3, if_pos (by rw [e60]; rfl)]
  unfold rwL bgL
  rw [rwA, rwA, rwA, rwA, rwA, rwA, Zl5, Zl5, Zl5, rwS_mk, bg_not, putR_one (by rw [e1]; decide), e1, p60,
    Zgp (a := Zf 1 []) (s := Zf 24 []) (by rw [e24]; decide) (by rw [e24]; exact join_ne rfl (by decide)), e24,
    putR_some (a := Zf 24 []) (s := Zf 24 []) (x := Zf 24 []) (by rw [e24]; decide) (by rw [e24]; exact join_ded),
    Zgp (a := Zf 1 []) (s := Zf 24 []) (by rw [e24]; decide) (by rw [e24]; exact join_ne rfl (by decide)), e24,
    Zgp (a := Zf 24 []) (by rw [e21]; decide) (by rw [e21]; exact join_ne rfl (by decide)), e21]
  rfl
theorem w_1 : Zgg 1 = [86] := by decide +kernel
theorem w_24 : Zgg 24 = [100, 101, 100, 117, 112] := by decide +kernel
theorem w_20 : Zgg 20 = [119, 104, 101, 114, 101] := by decide +kernel
theorem w_5 : Zgg 5 = [111, 117, 116] := by decide +kernel
theorem Zij {n : Nat} {op : Int} {subs : List (List Stp)} {cs : List PV} (h : SC n (Zf op subs) cs) : ∃ m pa pb pc pd pe, n = m + 1 ∧ Zp op ∧ cs = [.int .i64 op, pa, pb, pc, pd, pe] ∧ LR NmC pa [] ∧ LR NuC pb [] ∧ LR PrC pc [] ∧ LR VC pd [] ∧ LR (SubC (SC m)) pe subs ∧ Pl pa ∧ Pl pb ∧ Pl pc ∧ Pl pd ∧ Pl pe := sc_opn h
set_option maxHeartbeats 4000000 in
theorem Zl9 {n : Nat} {op : Int} {cs : List PV} (h : SC n (Zf op []) cs) : T.R (.call Z20 [.agg cs] .nilSl) := by
  obtain ⟨m, pa, pb, pc, pd, pe, rfl, io, rfl, h1, h2, h3, h4, h5, pla, plb, plc, pld, ple⟩ := Zij h
  obtain ⟨a1, a2, _⟩ := h1.len
  obtain ⟨b1, b2, _⟩ := h2.len
  obtain ⟨c1, c2, _⟩ := h3.len
  obtain ⟨d1, d2, _⟩ := h4.len
  obtain ⟨e1, e2, _⟩ := h5.len
  obtain ⟨S, hS⟩ : ∃ S, emptySt.new (.var [.int .i64 op, pa, pb, pc, pd, pe]) = S := ⟨_, rfl⟩
  have g : S.get 0 = some (.var [.int .i64 op, pa, pb, pc, pd, pe]) := by rw [← hS]; exact St.get_new
  have hlt : decide ((0 : Int) < ((0 : Nat) : Int)) = false := by decide
  refine Z6 rfl rfl ?_
  repeat' first | ((with_reducible show V _ _ _ _ _ _); first | refine Z9m rfl (Ze ?_) | refine Z6s hlt rfl rfl ?_ | refine Z1 rfl ?_ | refine Z4 rfl rfl ?_) | ((with_reducible show VO _ _ _ _ _ _ _); first | refine Zjr hS rfl rfl ?_ | refine Z0 (ldv g rfl rfl) ?_ | refine Z8 rfl a1 a2 ?_ | refine Z8 rfl b1 b2 ?_ | refine Z8 rfl c1 c2 ?_ | refine Z8 rfl d1 d2 ?_ | refine Z8 rfl e1 e2 ?_ | refine Z0 rfl ?_ | refine Z2 ?_)
  rfl
set_option maxHeartbeats 4000000 in
theorem run_text5 {n : Nat} {p : PV} (hp : SL n p [Zf 5 []]) : T.R (.call Z9b [p] (.str [111, 117, 116, 40, 41])) := by
  obtain ⟨cs, ay, hcs⟩ := SL.at hp (j := 0) (s := Zf 5 []) rfl
  obtain ⟨p1, p2, _⟩ := hp.len
  have ha := Zl9 hcs
  have c6 := hcs.len6
  obtain ⟨m, pa, pb, pc, pd, pe, rfl, io, rfl, h1, h2, h3, h4, h5, pla, plb, plc, pld, ple⟩ := Zij hcs
  have hw := Za1 (op := 5) (by simp [Zp])
  rw [w_5] at hw
  refine Z6 rfl rfl ?_
  repeat' first | ((with_reducible show V _ _ _ _ _ _); first | refine Z9m rfl (Ze ?_) | refine Z1 rfl ?_ | refine Za rfl rfl ?_ | refine Zb rfl rfl ?_ | refine Z4 rfl rfl ?_) | ((with_reducible show VO _ _ _ _ _ _ _); first | refine Z8 rfl p1 p2 ?_ | refine Zt rfl rfl ay ?_ | refine Z0n rfl c6 ?_ | refine Z7 rfl rfl hw ?_ | refine Z7 rfl rfl ha ?_ | refine Z0 rfl ?_ | refine Z2 ?_)
  rfl
def outT : List UInt8 := [111, 117, 116, 40, 41]
set_option maxHeartbeats 4000000 in
theorem run_args1 {n : Nat} {op : Int} {cs : List PV} (h : SC n (Zf op [[Zf 5 []]]) cs) : ∃ q, T.R (.call Z20 [.agg cs] q) ∧ LR NmC q [outT] := by
  obtain ⟨m, pa, pb, pc, pd, pe, rfl, io, rfl, h1, h2, h3, h4, h5, pla, plb, plc, pld, ple⟩ := Zij h
  obtain ⟨a1, a2, _⟩ := h1.len
  obtain ⟨b1, b2, _⟩ := h2.len
  obtain ⟨c1, c2, _⟩ := h3.len
  obtain ⟨d1, d2, _⟩ := h4.len
  obtain ⟨e1, e2, _⟩ := h5.len
  obtain ⟨ds, ay, hds⟩ := h5.at (sz := 1) (fun _ _ h => by obtain ⟨_, rfl, _⟩ := h; rfl) (j := 0) (a := [Zf 5 []]) rfl
  obtain ⟨w, rfl, hw⟩ := hds
  have plw : Pl w := SL.pl hw
  have ht := run_text5 hw
  obtain ⟨S, hS⟩ : ∃ S, emptySt.new (.var [.int .i64 op, pa, pb, pc, pd, pe]) = S := ⟨_, rfl⟩
  have g : S.get 0 = some (.var [.int .i64 op, pa, pb, pc, pd, pe]) := by rw [← hS]; exact St.get_new
  have n0 : S.next = 1 := by rw [← hS]; rfl
  obtain ⟨v', S2, r1, r2, r3⟩ := (AccR.nil (R := NmC) (sz := 1) (st := S)).app (a := outT) (cs := [.str outT]) (bytes := 16) ⟨by decide, rfl⟩ (by decide)
  have g2 : S2.get 0 = some (.var [.int .i64 op, pa, pb, pc, pd, pe]) := (r3.2.2.2 0 (by omega) (by simp [Z0i])).trans g
  obtain ⟨q, x1, x2⟩ := r2.view (fun _ _ h => h.pl) (by decide)
  have hlt : decide ((0 : Int) < ((0 : Nat) : Int)) = false := by decide
  have hok : okEls 1 [[.str outT]] = true := rfl
  have key : ∃ r, T.R (.call Z20 [.agg [.int .i64 op, pa, pb, pc, pd, pe]] r) ∧ r = q := by
    refine Z9v rfl rfl ?_
    repeat' first | ((with_reducible show V _ _ _ _ _ _); first | refine Zmy rfl rfl x1 rfl | refine Z9m rfl (Ze ?_) | refine Z6s hlt rfl rfl ?_ | refine Z1 rfl ?_ | refine Za rfl rfl ?_) | ((with_reducible show VO _ _ _ _ _ _ _); first | refine Zjr hS rfl rfl ?_ | refine Z0 (ldv g rfl rfl) ?_ | refine Z0 (ldv g2 rfl rfl) ?_ | refine Z8 rfl a1 a2 ?_ | refine Z8 rfl b1 b2 ?_ | refine Z8 rfl c1 c2 ?_ | refine Z8 rfl d1 d2 ?_ | refine Z8 rfl e1 e2 ?_ | refine Zt rfl rfl ay ?_ | refine Z7 rfl rfl ht ?_ | refine Z7n rfl rfl rfl hok (by decide) (by decide) r1 ?_ | refine Z0 rfl ?_ | refine Z2 ?_)
  obtain ⟨r, r1, rfl⟩ := key
  exact ⟨r, r1, x2⟩
def bgT : List UInt8 := [86, 40, 41, 46, 100, 101, 100, 117, 112, 40, 41, 46, 119, 104, 101, 114, 101, 40, 111, 117, 116, 40, 41, 41]
set_option maxHeartbeats 8000000 in
theorem run_textB {n : Nat} {p : PV} (hp : SL n p bgM) : T.R (.call Z9b [p] (.str bgT)) := by
  obtain ⟨cs, ay, hcs⟩ := SL.at hp (j := 0) (s := Zf 1 []) rfl
  obtain ⟨ds, by_, hds⟩ := SL.at hp (j := 1) (s := Zf 24 []) rfl
  obtain ⟨es, cy, hes⟩ := SL.at hp (j := 2) (s := Zf 20 [[Zf 5 []]]) rfl
  obtain ⟨p1, p2, _⟩ := hp.len
  have ha := Zl9 hcs
  have hb := Zl9 hds
  obtain ⟨q, hc, hq⟩ := run_args1 hes
  obtain ⟨q1, q2, _⟩ := hq.len
  obtain ⟨xs, qy, hxs⟩ := hq.at (sz := 1) (fun _ _ h => h.len1) (j := 0) (a := outT) rfl
  obtain ⟨_, rfl⟩ := hxs
  have c6 := hcs.len6
  have d6 := hds.len6
  have e6 := hes.len6
  obtain ⟨_, pa, pb, pc, pd, pe, _, io, rfl, _, _, _, _, _, pla, plb, plc, pld, ple⟩ := Zij hcs
  obtain ⟨_, qa, qb, qc, qd, qe, _, io', rfl, _, _, _, _, _, qla, qlb, qlc, qld, qle⟩ := Zij hds
  obtain ⟨_, ra, rb, rc, rd, re, _, io'', rfl, _, _, _, _, _, rla, rlb, rlc, rld, rle⟩ := Zij hes
  have w1 := Za1 (op := 1) (by simp [Zp])
  have w2 := Za1 (op := 24) (by simp [Zp])
  have w3 := Za1 (op := 20) (by simp [Zp])
  rw [w_1] at w1
  rw [w_24] at w2
  rw [w_20] at w3
  refine Z6 rfl rfl ?_
  repeat' first | ((with_reducible show V _ _ _ _ _ _); first | refine Z9m rfl (Ze ?_) | refine Z1 rfl ?_ | refine Za rfl rfl ?_ | refine Zb rfl rfl ?_ | refine Z4 rfl rfl ?_) | ((with_reducible show VO _ _ _ _ _ _ _); first | refine Z8 rfl p1 p2 ?_ | refine Z8 rfl q1 q2 ?_ | refine Zt rfl rfl ay ?_ | refine Zt rfl rfl by_ ?_ | refine Zt rfl rfl cy ?_ | refine Zt rfl rfl qy ?_ | refine Z0n rfl c6 ?_ | refine Z7 rfl rfl w1 ?_ | refine Z7 rfl rfl w2 ?_ | refine Z7 rfl rfl w3 ?_ | refine Z7 rfl rfl ha ?_ | refine Z7 rfl rfl hb ?_ | refine Z7 rfl rfl hc ?_ | refine Z0 rfl ?_ | refine Z2 ?_)
  rfl
theorem chk_bgM : Zkt bgM = 0 := by decide +kernel
theorem chk_bgL : Zkt bgL = 0 := by decide +kernel
theorem run_PrintB {n : Nat} {p : PV} (hp : SL n p bgM) : T.R (.call Zfo [p] (.tuple [.str (103 :: 46 :: bgT), .int .i64 0])) := by
  have hc := Zi7 hp
  rw [chk_bgM] at hc
  have ht := run_textB hp
  have plp := SL.pl hp
  refine Z6 rfl rfl ?_
  repeat' first | ((with_reducible show V _ _ _ _ _ _); first | refine Z1 rfl ?_ | refine Zb rfl rfl ?_ | refine Z4 rfl rfl ?_) | ((with_reducible show VO _ _ _ _ _ _ _); first | refine Z7 rfl rfl hc ?_ | refine Z7 rfl rfl ht ?_ | refine Z0 rfl ?_ | refine Z2 ?_)
  rfl
theorem lr_one {α : Type} {R : α → List PV → Prop} {a : α} {cs : List PV} (h : R a cs) : LR R (.sl [cs] true) [a] := .inr ⟨_, true, rfl, by simp, rfl, fun j b ds h1 h2 => by
  cases j with
  | zero => simp at h1 h2; subst h1 h2; exact h
  | succ j => simp at h1⟩
def cl (op : Int) : List PV := [.int .i64 op, .nilSl, .nilSl, .nilSl, .nilSl, .nilSl]
def cl1 (op : Int) (q : PV) : List PV := [.int .i64 op, .nilSl, .nilSl, .nilSl, .nilSl, q]
theorem sc_cl {n : Nat} {op : Int} (h : Zp op) : SC (n + 1) (Zf op []) (cl op) := Za0 h (.inl ⟨rfl, rfl⟩)
def bgI : PV := .sl [cl 5, cl 44] true
def bgN : List PV := cl1 21 (.sl [[bgI]] true)
def bgO : List PV := cl1 21 (.sl [[.sl [bgN] true]] true)
def bgP : PV := .sl [cl 1, cl 60, cl 24, cl 24, bgO] true
theorem sl_bg : SL 3 bgP bgL := by
  have i5 : Zp 5 := by simp [Zp]
  have hI : SL 1 bgI [Zf 5 [], Zf 44 []] := .inr ⟨_, true, rfl, by simp, rfl, fun j s cs h1 h2 => by
    match j, h1, h2 with
    | 0, h1, h2 => simp at h1 h2; subst h1 h2; exact sc_cl (by simp [Zp])
    | 1, h1, h2 => simp at h1 h2; subst h1 h2; exact sc_cl (by simp [Zp])
    | j + 2, h1, h2 => simp at h1⟩
  have hN : SC 2 (Zf 21 [[Zf 5 [], Zf 44 []]]) bgN := Za0 (by simp [Zp]) (lr_one ⟨_, rfl, hI⟩)
  have hO : SC 3 (Zf 21 [[Zf 21 [[Zf 5 [], Zf 44 []]]]]) bgO := Za0 (by simp [Zp]) (lr_one ⟨_, rfl, lr_one hN⟩)
  exact .inr ⟨_, true, rfl, by simp [bgL], rfl, fun j s cs h1 h2 => by
    unfold bgL at h1
    match j, h1, h2 with
    | 0, h1, h2 => simp at h1 h2; subst h1 h2; exact sc_cl (by simp [Zp])
    | 1, h1, h2 => simp at h1 h2; subst h1 h2; exact sc_cl (by simp [Zp])
    | 2, h1, h2 => simp at h1 h2; subst h1 h2; exact sc_cl (by simp [Zp])
    | 3, h1, h2 => simp at h1 h2; subst h1 h2; exact sc_cl (by simp [Zp])
    | 4, h1, h2 => simp at h1 h2; subst h1 h2; exact hO
    | j + 5, h1, h2 => simp at h1⟩
theorem cnt_bg : Zg bgL ≤ 134217728 := by decide +kernel
set_option maxHeartbeats 8000000 in
theorem run_begun : T.R (.call Zfq [] (.bool true)) := by
  obtain ⟨q, h1, h2⟩ := Zf6 sl_bg cnt_bg
  rw [chk_bgL] at h1 h2
  have hq : SL 3 q bgM := by
    rcases h2 with ⟨_, h⟩ | ⟨h, _⟩
    · rwa [rwL_begun] at h
    · exact absurd rfl h
  have h3 := run_PrintB hq
  have plq := SL.pl hq
  have plb := SL.pl sl_bg
  obtain ⟨S1, hS1⟩ : ∃ S, emptySt.new (.var z6) = S := ⟨_, rfl⟩
  have a1 : S1.get 0 = some (.var z6) := by rw [← hS1]; exact St.get_new
  obtain ⟨S2, hS2⟩ : ∃ S, S1.put 0 (.var bgO) = S := ⟨_, rfl⟩
  have a2 : S2.get 0 = some (.var bgO) := by rw [← hS2]; exact St.get_put
  have hone : ∀ c ∈ bgO, PV.one c = true := by simp [bgO, cl1, PV.one]
  have hbd : ∀ {look : Nat → Option Tok} {e : EC} {i j k l m : Nat}, e.get i = some (.agg (cl 1)) → e.get j = some (.agg (cl 60)) → e.get k = some (.agg (cl 24)) → e.get l = some (.agg (cl 24)) → e.get m = some (.agg bgO) →
      Zo look e (.buildSl 6 [cl 0, cl 0, cl 0, cl 0, cl 0] [(0, .t i), (1, .t j), (2, .t k), (3, .t l), (4, .t m)]) = some bgP := fun {look e i j k l m} h1 h2 h3 h4 h5 => by
    simp only [Zo, Z6e, Zmi, Opd.get, h1, h2, h3, h4, h5]
    rfl
  have dT := Z0g (p := (103 :: 46 :: bgT) = (103 :: 46 :: bgT)) rfl
  refine Z6 rfl rfl ?_
  repeat' first | refine Z1 rfl ?_ | refine Z4 rfl rfl ?_ | ((with_reducible show VO _ _ _ _ _ _ _); first | refine Z5h hS1 rfl ?_ | refine Zb7 hS2 a1 hone rfl rfl rfl rfl rfl ?_ | refine Z07 rfl a2 rfl ?_ | refine Z0 (hbd rfl rfl rfl rfl rfl) ?_ | refine Z7 rfl rfl h1 ?_ | refine Z7 rfl rfl h3 ?_ | refine Z5 dT rfl ?_ | refine Z0 rfl ?_ | refine Z2 ?_ | refine Zk rfl ?_)
  rfl
theorem cntP_ok {l : List Stp} (h : okL l = true) (hl : Zg l ≤ 134217728) (d : Int) : cntP l d = .tuple [.int .i64 (Zg l : Int), .int .i64 (dpL l d d), .bool true] := by
  unfold cntP
  rw [if_pos h]
  have : IntKind.i64.wrap (Zg l : Int) = (Zg l : Int) := by rw [Z00]; omega
  rw [this]
set_option maxHeartbeats 8000000 in
theorem run_Once {n : Nat} {l : List Stp} {p : PV} (hp : SL n p l) (hcn' : Zg l ≤ 1048576) : T.R (.call Z9p [p] (.bool true)) := by
  have hcn : Zg l ≤ 134217728 := by omega
  have plp := SL.pl hp
  obtain ⟨b, hf⟩ := run_few n l p 1 hp
  have hbg := run_begun
  have hch := Zi7 hp
  obtain ⟨q1, h1, h2⟩ := Zf6 hp hcn
  cases b with
  | false =>
    refine Z6 rfl rfl ?_
    repeat' first | ((with_reducible show V _ _ _ _ _ _); first | refine Z1 rfl ?_ | refine Za rfl rfl ?_ | refine Z4 rfl rfl ?_) | ((with_reducible show VO _ _ _ _ _ _ _); first | refine Z7 rfl rfl hf ?_ | refine Z0 rfl ?_ | refine Z2 ?_)
    rfl
  | true =>
    rcases h2 with ⟨h0, hq1⟩ | ⟨h0, rfl⟩
    · have hok := chk_okX h0
      have hrok := rwL_ok hok
      have hc1 : Zg (rwL l) ≤ Zg l := rwL_cnt hok
      have h01 : Zkt (rwL l) = 0 := chk_rw h0 hcn'
      obtain ⟨q2, h3, h4⟩ := Zf6 hq1 (Nat.le_trans hc1 hcn)
      have hq2 : SL n q2 (rwL l) := by
        rcases h4 with ⟨_, h⟩ | ⟨h, _⟩
        · rwa [rwL_twice] at h
        · exact absurd h01 h
      have hs := run_rSame n (rwL l) q1 q2 hq1 hq2
      have hch1 := Zi7 hq1
      have hn := Zi5 n l p 1 hp
      have hm := Zi5 n (rwL l) q1 1 hq1
      rw [cntP_ok hok hcn] at hn
      rw [cntP_ok hrok (Nat.le_trans hc1 hcn)] at hm
      rw [h0] at h1 hch
      rw [h01] at h3 hch1
      have plq1 := SL.pl hq1
      have plq2 := SL.pl hq2
      have d1 := Z0g (p := ((Zg (rwL l) : Nat) : Int) ≤ (Zg l : Nat)) (by exact_mod_cast hc1)
      refine Z6 rfl rfl ?_
      repeat' first | ((with_reducible show V _ _ _ _ _ _); first | refine Z1 rfl ?_ | refine Zb rfl rfl ?_ | refine Z4 rfl rfl ?_) | ((with_reducible show VO _ _ _ _ _ _ _); first | refine Z7 rfl rfl hf ?_ | refine Z7 rfl rfl h1 ?_ | refine Z7 rfl rfl hbg ?_ | refine Z7 rfl rfl hch ?_ | refine Z7 rfl rfl h3 ?_ | refine Z7 rfl rfl hn ?_ | refine Z7 rfl rfl hm ?_ | refine Z7 rfl rfl hs ?_ | refine Z7 rfl rfl hch1 ?_ | refine Z5 d1 rfl ?_ | refine Z0 rfl ?_ | refine Z2 ?_ | refine Zk rfl ?_)
      rfl
    · have d1 := Z2b (p := Zkt l = Zkt l) rfl
      have d2 := Z2l (p := Zkt l = 0) h0
      refine Z6 rfl rfl ?_
      repeat' first | ((with_reducible show V _ _ _ _ _ _); first | refine Z1 rfl ?_ | refine Za rfl rfl ?_ | refine Zb rfl rfl ?_ | refine Z4 rfl rfl ?_) | ((with_reducible show VO _ _ _ _ _ _ _); first | refine Z7 rfl rfl hf ?_ | refine Z7 rfl rfl h1 ?_ | refine Z7 rfl rfl hbg ?_ | refine Z7 rfl rfl hch ?_ | refine Z5 d1 rfl ?_ | refine Z5 d2 rfl ?_ | refine Z0 rfl ?_ | refine Z2 ?_ | refine Zk rfl ?_)
      rfl
end Go.Proofs.YtnedeokclnbcpaaGreatDoor
