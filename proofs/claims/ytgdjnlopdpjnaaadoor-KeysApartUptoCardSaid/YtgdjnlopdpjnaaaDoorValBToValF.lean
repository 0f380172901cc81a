/- How two values stand: rambleref02.Compare, Same, SameAll. · How two values stand: value.Compare; whether they are the same. · How two values stand: value.Compare. · Whether two values are the same; whether all are; whether a value may be: rambleref02. · num.Take: a number out of its bytes. · value.may, one step. · value.may, one step; slices.ContainsFunc over it. · rambleref02.may, one step. -/
import Derived.Test.YtgdjnlopdpjnaaaDoorBytesToCodC
import Derived.Test.YtgdjnlopdpjnaaaDoorAmZ
set_option linter.unusedVariables false
set_option linter.unusedSimpArgs false
namespace Go.Proofs.YtgdjnlopdpjnaaaDoor
open Go Go.AM Go.RowKit
theorem i64_len {α : Type} {l : List α} (h : l.length ≤ 140737488355328) : I64 l.length := by unfold I64; omega
def stV (ca cb : List PV) : St := ⟨0, 2, [(0, .var ca), (1, .var cb)]⟩
def cmpP (S : St) (la lb : List Val) : EX → EC → St → Prop := fun x e' st' => st' = S ∧ ((x = .exit 0 ∧ e' = .put 2 (.ptr 0 0) (.put 3 (.ptr 1 0) .nil) ∧ Zfm la.length lb.length = Z2y la lb) ∨ (x = .ret ∧ e' = .put 4 (.int .i64 (Z2y la lb)) .nil ∧ Z2y la lb ≠ 0))
theorem cmp_loop (k n k' n' : Int) (s s' : List UInt8) (la lb : List Val) (p q : PV) (hp : LC la p) (hq : LC lb q)
    (ih : ∀ (j : Nat) (v : Val) (cs : List PV), la[j]? = some v → At 4 p j cs → ∀ (w : Val) (ds : List PV), VC w ds → T.R (.call Z22 [.agg cs, .agg ds] (.int .i64 (Zbq v w)))) :
    ∀ (ra rb pre : List Val) (e : EC), la = pre ++ ra → lb = pre ++ rb → e.get 2 = some (.ptr 0 0) → e.get 3 = some (.ptr 1 0) → e.get 8 = some (.int .i64 pre.length) →
    V T (PE (cmpP (stV [.int .i64 k, .int .i64 n, .str s, p] [.int .i64 k', .int .i64 n', .str s', q]) la lb)) [.code (.loop Z1h)] .normal e (stV [.int .i64 k, .int .i64 n, .str s, p] [.int .i64 k', .int .i64 n', .str s', q]) := by
  obtain ⟨lp1, lp2, lp3⟩ := hp.len
  obtain ⟨lq1, lq2, lq3⟩ := hq.len
  have out : ∀ (ra rb pre : List Val) (fr : List Fr) (x : EX) (e' : EC), la = pre ++ ra → lb = pre ++ rb → ra = [] ∨ rb = [] → Zi 200 fr x = ([], .exit 0) → e'.get 2 = some (.ptr 0 0) → e'.get 3 = some (.ptr 1 0) → V T (PE (cmpP (stV [.int .i64 k, .int .i64 n, .str s, p] [.int .i64 k', .int .i64 n', .str s', q]) la lb)) fr x e' (stV [.int .i64 k, .int .i64 n, .str s, p] [.int .i64 k', .int .i64 n', .str s', q]) := fun ra rb pre fr x e' ha hb hn hadv g0 g1 =>
    Zj (.put 2 (.ptr 0 0) (.put 3 (.ptr 1 0) .nil)) (Z2 g0 (Z2 g1 Zk)) (Z1y hadv ⟨rfl, .inl ⟨rfl, rfl, by
      rw [ha, hb, Z6h]
      rcases hn with rfl | rfl
      · cases rb <;> simp [Z2y, Zfm] <;> omega
      · cases ra <;> simp [Z2y, Zfm] <;> omega⟩⟩)
  intro ra
  induction ra with
  | nil =>
    intro rb pre e ha hb h0 h1 h5
    refine Zj (.put 2 (.ptr 0 0) (.put 3 (.ptr 1 0) (.put 8 _ .nil))) (Z2 h0 (Z2 h1 (Z2 h5 Zk))) (Zn ?_)
    repeat' first | ((with_reducible show V _ _ _ _ _ _); first | refine Z3 rfl ?_ | refine Ze rfl rfl ?_ | refine Z86 rfl rfl (fun _ => ?_) (fun _ => ?_) | refine V_D rfl ?_) | ((with_reducible show VO _ _ _ _ _ _ _); first | refine Z0r rfl lp1 lp2 ?_ | refine Z0r rfl lq1 lq2 ?_ | refine Z0 rfl ?_ | refine Z4 ?_ | refine Zq rfl ?_ | refine Z19 rfl rfl ?_ | refine O_gS rfl (fun _ => ?_) (fun _ => ?_)) | refine Z2g rfl ?_ | refine out [] rb pre _ _ _ ha hb (.inl rfl) rfl rfl rfl
    all_goals (exfalso; subst ha; simp at *)
  | cons y ra ihr =>
    intro rb pre e ha hb h0 h1 h5
    refine Zj (.put 2 (.ptr 0 0) (.put 3 (.ptr 1 0) (.put 8 _ .nil))) (Z2 h0 (Z2 h1 (Z2 h5 Zk))) (Zn ?_)
    cases rb with
    | nil =>
      repeat' first | ((with_reducible show V _ _ _ _ _ _); first | refine Z3 rfl ?_ | refine Ze rfl rfl ?_ | refine Z86 rfl rfl (fun _ => ?_) (fun _ => ?_) | refine V_D rfl ?_) | ((with_reducible show VO _ _ _ _ _ _ _); first | refine Z0r rfl lp1 lp2 ?_ | refine Z0r rfl lq1 lq2 ?_ | refine Z0 rfl ?_ | refine Z4 ?_ | refine Zq rfl ?_ | refine Z19 rfl rfl ?_ | refine O_gS rfl (fun _ => ?_) (fun _ => ?_)) | refine Z2g rfl ?_ | refine out (y :: ra) [] pre _ _ _ ha hb (.inr rfl) rfl rfl rfl
      all_goals (exfalso; subst hb; simp at *)
    | cons z rb =>
      have hy : la[pre.length]? = some y := by subst ha; simp
      have hz : lb[pre.length]? = some z := by subst hb; simp
      obtain ⟨cy, ay, vy⟩ := hp.at hy
      obtain ⟨cz, az, vz⟩ := hq.at hz
      have ply := vy.pl
      have plz := vz.pl
      have hcall := ih _ y cy hy ay z cz vz
      have hcm : Z2y la lb = orI (Zbq y z) (Z2y ra rb) := by rw [ha, hb, Z6h]; rfl
      by_cases hyz : Zbq y z = 0
      · have hyz' := cmpV_zero.1 hyz
        subst hyz'
        have fin : ∀ (fr : List Fr) (x : EX) (e' : EC), Zi 200 fr x = ([.code (.loop Z1h)], .normal) → e'.get 2 = some (.ptr 0 0) → e'.get 3 = some (.ptr 1 0) → e'.get 8 = some (.int .i64 (IntKind.i64.wrap (pre.length + 1))) → V T (PE (cmpP (stV [.int .i64 k, .int .i64 n, .str s, p] [.int .i64 k', .int .i64 n', .str s', q]) la lb)) fr x e' (stV [.int .i64 k, .int .i64 n, .str s, p] [.int .i64 k', .int .i64 n', .str s', q]) := fun fr x e' hadv g0 g1 g5 => Z38 hadv (by
          have hlt : pre.length < la.length := by subst ha; simp
          have hw : IntKind.i64.wrap (pre.length + 1) = ((pre ++ [y]).length : Int) := by rw [Z06]; simp; omega
          rw [hw] at g5
          exact ihr rb (pre ++ [y]) e' (by rw [ha]; simp) (by rw [hb]; simp) g0 g1 g5)
        rw [hyz] at hcall
        repeat' first | ((with_reducible show V _ _ _ _ _ _); first | refine Z3 rfl ?_ | refine Ze rfl rfl ?_ | refine Z86 rfl rfl (fun _ => ?_) (fun _ => ?_) | refine V_D rfl ?_) | ((with_reducible show VO _ _ _ _ _ _ _); first | refine Z0r rfl lp1 lp2 ?_ | refine Z0r rfl lq1 lq2 ?_ | refine Z0 rfl ?_ | refine Z4 ?_ | refine Zq rfl ?_ | refine Z19 rfl rfl ?_ | refine O_gS rfl (fun _ => ?_) (fun _ => ?_)) | ((with_reducible show VD _ _ _ _ _ _ _); first | refine D_at rfl rfl ay ?_ | refine D_at rfl rfl az ?_ | refine Z87 rfl vy.len4 ?_ | refine Z87 rfl vz.len4 ?_ | refine D_cA rfl rfl hcall ?_ | refine Z2g rfl ?_ | refine Zbn ?_) | refine fin _ _ _ rfl rfl rfl rfl
        all_goals (exfalso; subst ha hb; simp at *; try omega)
      · have ret : ∀ (fr : List Fr) (x : EX) (e' : EC), Zi 200 fr x = ([], .ret) → e'.get 4 = some (.int .i64 (Zbq y z)) → V T (PE (cmpP (stV [.int .i64 k, .int .i64 n, .str s, p] [.int .i64 k', .int .i64 n', .str s', q]) la lb)) fr x e' (stV [.int .i64 k, .int .i64 n, .str s, p] [.int .i64 k', .int .i64 n', .str s', q]) := fun fr x e' hadv g0 => by
          have he : Z2y la lb = Zbq y z := by rw [hcm]; exact if_neg hyz
          exact Zj (.put 4 _ .nil) (Z2 g0 Zk) (Z1y hadv ⟨rfl, .inr ⟨rfl, by rw [he], by rw [he]; exact hyz⟩⟩)
        generalize hcr : Zbq y z = r at hcall ret hyz
        repeat' first | ((with_reducible show V _ _ _ _ _ _); first | refine Z3 rfl ?_ | refine Ze rfl rfl ?_ | refine Z86 rfl rfl (fun _ => ?_) (fun _ => ?_) | refine V_D rfl ?_) | ((with_reducible show VO _ _ _ _ _ _ _); first | refine Z0r rfl lp1 lp2 ?_ | refine Z0r rfl lq1 lq2 ?_ | refine Z0 rfl ?_ | refine Z4 ?_ | refine Zq rfl ?_ | refine Z19 rfl rfl ?_ | refine O_gS rfl (fun _ => ?_) (fun _ => ?_)) | ((with_reducible show VD _ _ _ _ _ _ _); first | refine D_at rfl rfl ay ?_ | refine D_at rfl rfl az ?_ | refine Z87 rfl vy.len4 ?_ | refine Z87 rfl vz.len4 ?_ | refine D_cA rfl rfl hcall ?_ | refine Z2g rfl ?_ | refine Zbn ?_) | refine ret _ _ _ rfl rfl
        all_goals clear ihr ret out hcall ih
        all_goals (exfalso; first | (subst ha hb; simp at *; omega) | (refine hyz ?_; simp_all; done))
theorem run_Compare2 {a : Val} {ca : List PV} (ha : VC a ca) : ∀ (b : Val) (cb : List PV), VC b cb → T.R (.call Z22 [.agg ca, .agg cb] (.int .i64 (Zbq a b))) := by
  refine VC.ind (M := fun a ca => ∀ (b : Val) (cb : List PV), VC b cb → T.R (.call Z22 [.agg ca, .agg cb] (.int .i64 (Zbq a b)))) ?_ ha
  rintro k n s l p hk hn hs hp ih ⟨k', n', s', l'⟩ cb hb
  obtain ⟨hk', hn', hs', q, rfl, hq⟩ := hb.open
  have h1 := Zah k k'
  have h2 := Zah n n'
  have h3 := run_text2 s s' (by omega)
  have h4 := Zah l.length l'.length
  have plp := hp.pl
  have plq := hq.pl
  obtain ⟨lp1, lp2, lp3⟩ := hp.len
  obtain ⟨lq1, lq2, lq3⟩ := hq.len
  have hl := fun e h0 h1 h2 => cmp_loop k n k' n' s s' l l' p q hp hq ih l l' [] e rfl rfl h0 h1 h2
  unfold Zbq orI
  generalize Zfm k k' = r1 at h1 ⊢
  generalize Zfm n n' = r2 at h2 ⊢
  generalize Zcx s s' = r3 at h3 ⊢
  refine Zo rfl rfl ?_
  repeat' first | ((with_reducible show V _ _ _ _ _ _); first | refine Z55 rfl (hl _ rfl rfl rfl) ?_ | refine Z3 rfl ?_ | refine Z86 rfl rfl (fun _ => ?_) (fun _ => ?_) | refine Zl rfl rfl ?_) | ((with_reducible show VO _ _ _ _ _ _ _); first | refine Z9 rfl ?_ | refine Z8 rfl rfl h1 ?_ | refine Z8 rfl rfl h2 ?_ | refine Z8 rfl rfl h3 ?_ | refine Z0 rfl ?_ | refine Z4 ?_)
  all_goals simp only [Bool.not_eq_true', Bool.not_eq_false', decide_eq_true_eq, decide_eq_false_iff_not] at *
  · rw [if_neg ‹_›]
  · rw [if_pos ‹_›, if_neg ‹_›]
  · rw [if_pos ‹_›, if_pos ‹_›, if_neg ‹_›]
  · rw [if_pos ‹_›, if_pos ‹_›, if_pos ‹_›]
    rintro x e' st' ⟨rfl, ⟨rfl, rfl, hc⟩ | ⟨rfl, rfl, hc⟩⟩
    · rw [hc] at h4
      repeat' first | refine Z3 rfl ?_ | refine Zl rfl rfl ?_ | ((with_reducible show VO _ _ _ _ _ _ _); first | refine Z0r rfl lp1 lp2 ?_ | refine Z0r rfl lq1 lq2 ?_ | refine Z8 rfl rfl h4 ?_ | refine Z0 rfl ?_ | refine Z4 ?_)
      all_goals rfl
    · repeat' first | refine Zl rfl rfl ?_
      all_goals rfl
theorem run_isNaN (a : Int) : T.R (.call Zf0 [.int .i64 a] (.bool false)) := by
  refine Zo rfl rfl ?_
  repeat' first | refine Z3 rfl ?_ | refine Zl rfl rfl ?_ | refine Z0 rfl ?_ | refine Z4 ?_
  all_goals simp
theorem run_isNaN64 (a : Int) : T.R (.call Zbv [.int .i64 a] (.bool false)) := by
  refine Zo rfl rfl ?_
  repeat' first | refine Z3 rfl ?_ | refine Zl rfl rfl ?_ | refine Z0 rfl ?_ | refine Z4 ?_
  all_goals simp
theorem run_cmpInt (a b : Int) : T.R (.call Zbw [.int .i64 a, .int .i64 b] (.int .i64 (Zfm a b))) := by
  refine Zo rfl rfl ?_
  repeat' first | ((with_reducible show V _ _ _ _ _ _); first | refine Z3 rfl ?_ | refine Ze rfl rfl ?_ | refine Z86 rfl rfl (fun _ => ?_) (fun _ => ?_) | refine Zl rfl rfl ?_) | ((with_reducible show VO _ _ _ _ _ _ _); first | refine Z8 rfl rfl (run_isNaN _) ?_ | refine Z0 rfl ?_ | refine Z4 ?_)
  all_goals simp only [decide_eq_true_eq, decide_eq_false_iff_not] at *
  all_goals unfold Zfm
  all_goals simp [*]
theorem run_cmpInt64 (a b : Int) : T.R (.call Z9w [.int .i64 a, .int .i64 b] (.int .i64 (Zfm a b))) := by
  refine Zo rfl rfl ?_
  repeat' first | ((with_reducible show V _ _ _ _ _ _); first | refine Z3 rfl ?_ | refine Ze rfl rfl ?_ | refine Z86 rfl rfl (fun _ => ?_) (fun _ => ?_) | refine Zl rfl rfl ?_) | ((with_reducible show VO _ _ _ _ _ _ _); first | refine Z8 rfl rfl (run_isNaN64 _) ?_ | refine Z0 rfl ?_ | refine Z4 ?_)
  all_goals simp only [decide_eq_true_eq, decide_eq_false_iff_not] at *
  all_goals unfold Zfm
  all_goals simp [*]
theorem cmpS_lib : ∀ a b : List UInt8, Lib.compareBytes a b = Zcx a b
  | [], [] => rfl
  | [], _ :: _ => rfl
  | _ :: _, [] => rfl
  | a :: x, b :: y => by
    unfold Lib.compareBytes Zcx Zfm
    rw [cmpS_lib x y]
    by_cases h : a = b
    · subst h; simp
    · rw [if_neg h]
      by_cases h2 : a < b
      · rw [if_pos h2, if_pos (by have := UInt8.lt_iff_toNat_lt.1 h2; omega)]
      · have h3 : b < a := by
          rcases UInt8.lt_or_lt_of_ne h with h3 | h3
          · exact absurd h3 h2
          · exact h3
        rw [if_neg h2, if_pos h3, if_neg (by have := UInt8.lt_iff_toNat_lt.1 h3; omega), if_pos (by have := UInt8.lt_iff_toNat_lt.1 h3; omega)]
theorem Zbr (a b : List UInt8) : T.R (.call Z6r [.str a, .str b] (.int .i64 (Zcx a b))) := by
  have hx : T.ext Z0l [.str a, .str b] (.int .i64 (Zcx a b)) := X_cmp ⟨rfl, a, b, rfl, by rw [cmpS_lib]⟩
  refine Zo rfl rfl ?_
  repeat' first | refine Z3 rfl ?_ | refine Zl rfl rfl ?_ | ((with_reducible show VO _ _ _ _ _ _ _); first | refine O_extP rfl rfl (Z17) rfl hx ?_ | refine Z0 rfl ?_ | refine Z4 ?_)
  all_goals rfl
theorem Zfy (a b : List UInt8) : T.R (.call Zbt [.str a, .str b] (.int .i64 (Zcx a b))) := by
  have hx := Zbr a b
  refine Zo rfl rfl ?_
  repeat' first | refine Z3 rfl ?_ | refine Zl rfl rfl ?_ | ((with_reducible show VO _ _ _ _ _ _ _); first | refine Z8 rfl rfl hx ?_ | refine Z0 rfl ?_ | refine Z4 ?_)
  all_goals rfl
theorem run_Or4 (a b c d : Int) (f : Bool) : T.R (.call n_cmp_Or_int [.sl [[.int .i64 a], [.int .i64 b], [.int .i64 c], [.int .i64 d]] f] (.int .i64 (orI a (orI b (orI c d))))) := by
  unfold orI
  refine Zo rfl rfl ?_
  repeat' first | ((with_reducible show V _ _ _ _ _ _); first | refine V_loop rfl (Zn ?_) | refine Z3 rfl ?_ | refine Zb rfl rfl ?_ | refine Ze rfl rfl ?_ | refine Z86 rfl rfl (fun _ => ?_) (fun _ => ?_) | refine Zl rfl rfl ?_) | refine Z0 rfl ?_ | refine Z4 ?_
  all_goals simp only [Bool.not_eq_true', Bool.not_eq_false', decide_eq_true_eq, decide_eq_false_iff_not] at *
  all_goals simp [*]
def cmpF (p q : PV) (la lb : List Val) : EX → EC → St → Prop := fun x e' st' => (x = .exit 0 ∧ st' = emptySt ∧ e' = .put 0 p (.put 1 q .nil) ∧ Z2y la lb = if la.length < lb.length then -1 else 0) ∨ (x = .ret ∧ e' = .put 6 (.int .i64 (Z2y la lb)) .nil)
theorem cmpf_loop (la lb : List Val) (p q : PV) (hp : LC la p) (hq : LC lb q)
    (ih : ∀ (j : Nat) (v : Val) (cs : List PV), la[j]? = some v → At 4 p j cs → ∀ (w : Val) (ds : List PV), VC w ds → T.R (.call Z0h [.agg cs, .agg ds] (.int .i64 (Zbq v w)))) :
    ∀ (ra rb pre : List Val) (e : EC), la = pre ++ ra → lb = pre ++ rb → e.get 0 = some p → e.get 1 = some q → e.get 2 = some (.func Z0h []) → e.get 11 = some p → e.get 12 = some (.int .i64 la.length) → e.get 13 = some (.int .i64 pre.length) →
    V T (PE (cmpF p q la lb)) [.code (.loop Z0c)] .normal e emptySt := by
  obtain ⟨lp1, lp2, lp3⟩ := hp.len
  obtain ⟨lq1, lq2, lq3⟩ := hq.len
  intro ra
  induction ra with
  | nil =>
    intro rb pre e ha hb h0 h1 h2 h11 h12 h13
    refine Zj (.put 0 p (.put 1 q (.put 2 (.func Z0h []) (.put 11 p (.put 12 (.int .i64 la.length) (.put 13 (.int .i64 pre.length) .nil)))))) (Z2 h0 (Z2 h1 (Z2 h2 (Z2 h11 (Z2 h12 (Z2 h13 Zk)))))) (Zn ?_)
    have hc : Z2y la lb = if la.length < lb.length then -1 else 0 := by
      rw [ha, hb, Z6h]
      cases rb with
      | nil => simp [Z2y]
      | cons z rb => rw [if_pos (by simp)]; rfl
    have out : ∀ (fr : List Fr) (x : EX) (e' : EC), Zi 200 fr x = ([], .exit 0) → e'.get 0 = some p → e'.get 1 = some q → V T (PE (cmpF p q la lb)) fr x e' emptySt := fun fr x e' hadv g0 g1 =>
      Zj (.put 0 p (.put 1 q .nil)) (Z2 g0 (Z2 g1 Zk)) (Z1y hadv (.inl ⟨rfl, rfl, rfl, hc⟩))
    repeat' first | refine Z3 rfl ?_ | refine Z86 rfl rfl (fun _ => ?_) (fun _ => ?_) | refine Z0 rfl ?_ | refine Z4 ?_ | refine out _ _ _ rfl rfl rfl
    all_goals (exfalso; subst ha; simp at *)
  | cons y ra ihr =>
    intro rb pre e ha hb h0 h1 h2 h11 h12 h13
    refine Zj (.put 0 p (.put 1 q (.put 2 (.func Z0h []) (.put 11 p (.put 12 (.int .i64 la.length) (.put 13 (.int .i64 pre.length) .nil)))))) (Z2 h0 (Z2 h1 (Z2 h2 (Z2 h11 (Z2 h12 (Z2 h13 Zk)))))) (Zn ?_)
    have hy : la[pre.length]? = some y := by subst ha; simp
    obtain ⟨cy, ay, vy⟩ := hp.at hy
    have hih := ih _ y cy hy ay
    obtain ⟨ky, ny, sy, ly⟩ := y
    obtain ⟨hk1, hn1, hs1, py, rfl, hpy⟩ := vy.open
    have ply := hpy.pl
    have ret : ∀ (fr : List Fr) (x : EX) (e' : EC) (st' : St) (r : Int), Zi 200 fr x = ([], .ret) → e'.get 6 = some (.int .i64 r) → r = Z2y la lb → V T (PE (cmpF p q la lb)) fr x e' st' := fun fr x e' st' r hadv g0 hr => by
      subst hr
      exact Zj (.put 6 _ .nil) (Z2 g0 Zk) (Z1y hadv (.inr ⟨rfl, rfl⟩))
    cases rb with
    | nil =>
      have hc : 1 = Z2y la lb := by rw [ha, hb, Z6h]; rfl
      repeat' first | refine Z3 rfl ?_ | refine Z86 rfl rfl (fun _ => ?_) (fun _ => ?_) | ((with_reducible show VO _ _ _ _ _ _ _); first | refine Z9 rfl ?_ | refine Zp rfl rfl vy.one rfl rfl rfl ?_ | refine Zh rfl rfl ay ?_ | refine Z0r rfl lq1 lq2 ?_ | refine Z0 rfl ?_ | refine Z4 ?_) | refine ret _ _ _ _ 1 rfl rfl hc
      all_goals (exfalso; clear ret hih ihr ih hc; subst ha hb; simp at *; try omega)
    | cons z rb =>
      have hz : lb[pre.length]? = some z := by subst hb; simp
      obtain ⟨cz, az, vz⟩ := hq.at hz
      have hcall := hih z cz vz
      have hcm : Z2y la lb = orI (Zbq (.mk ky ny sy ly) z) (Z2y ra rb) := by rw [ha, hb, Z6h]; rfl
      have hz0 : Zbq (.mk ky ny sy ly) z = 0 → (.mk ky ny sy ly) = z := cmpV_zero.1
      generalize hr : Zbq (.mk ky ny sy ly) z = r at hcall hcm hz0
      obtain ⟨kz, nz, sz, lz⟩ := z
      obtain ⟨hk2, hn2, hs2, pz, rfl, hpz⟩ := vz.open
      have plz := hpz.pl
      by_cases hyz : r = 0
      · have hyz' := hz0 hyz
        have fin : ∀ (fr : List Fr) (x : EX) (e' : EC) (st' : St), Zi 200 fr x = ([.code (.loop Z0c)], .normal) → e'.get 0 = some p → e'.get 1 = some q → e'.get 2 = some (.func Z0h []) → e'.get 11 = some p → e'.get 12 = some (.int .i64 la.length) → e'.get 13 = some (.int .i64 (IntKind.i64.wrap (pre.length + 1))) → st'.base = 0 → V T (PE (cmpF p q la lb)) fr x e' st' := fun fr x e' st' hadv g0 g1 g2 g11 g12 g13 hb0 => Z38 hadv (by
          have hlt : pre.length < la.length := by subst ha; simp
          have hw : IntKind.i64.wrap (pre.length + 1) = ((pre ++ [Val.mk ky ny sy ly]).length : Int) := by rw [Z06]; simp; omega
          rw [hw] at g13
          have := V_forgetAll (st := st') [(0, p), (1, q), (2, .func Z0h []), (11, p), (12, .int .i64 la.length), (13, .int .i64 ((pre ++ [Val.mk ky ny sy ly]).length : Int))]
            (Z5v g0 hp.pl.bel (Z5v g1 hq.pl.bel (Z5v g2 (.func _ _ (by simp)) (Z5v g11 hp.pl.bel (Z5v g12 (.int _ _) (Z5v g13 (.int _ _) fg_nil)))))) (by omega)
            (T := T) (Q := PE (cmpF p q la lb)) (c := .loop Z0c) (k := [])
          rw [hb0] at this
          exact this (ihr rb (pre ++ [Val.mk ky ny sy ly]) _ (by rw [ha]; simp) (by rw [hb, hyz']; simp) rfl rfl rfl rfl rfl rfl))
        subst hyz
        repeat' first | ((with_reducible show V _ _ _ _ _ _); first | refine Z3 rfl ?_ | refine Ze rfl rfl ?_ | refine Z86 rfl rfl (fun _ => ?_) (fun _ => ?_)) | ((with_reducible show VO _ _ _ _ _ _ _); first | refine Z9 rfl ?_ | refine Zp rfl rfl vy.one rfl rfl rfl ?_ | refine Zh rfl rfl ay ?_ | refine Zh rfl rfl az ?_ | refine Zp rfl rfl vz.one rfl rfl rfl ?_ | refine Z0r rfl lq1 lq2 ?_ | refine Z8 rfl rfl hcall ?_ | refine Z0 rfl ?_ | refine Z4 ?_) | refine fin _ _ _ _ rfl rfl rfl rfl rfl rfl rfl rfl
        all_goals (exfalso; clear ret hih ihr ih fin; subst ha hb; simp at *; try omega)
      · have hc : r = Z2y la lb := by rw [hcm]; exact (if_neg hyz).symm
        repeat' first | refine Z3 rfl ?_ | refine Z86 rfl rfl (fun _ => ?_) (fun _ => ?_) | ((with_reducible show VO _ _ _ _ _ _ _); first | refine Z9 rfl ?_ | refine Zp rfl rfl vy.one rfl rfl rfl ?_ | refine Zh rfl rfl ay ?_ | refine Zh rfl rfl az ?_ | refine Zp rfl rfl vz.one rfl rfl rfl ?_ | refine Z0r rfl lq1 lq2 ?_ | refine Z8 rfl rfl hcall ?_ | refine Z0 rfl ?_ | refine Z4 ?_) | refine ret _ _ _ _ r rfl rfl hc
        all_goals (exfalso; clear ret hih ihr ih hc hcall)
        all_goals first | (subst ha hb; simp at *; omega) | (refine hyz ?_; simp_all; done)
theorem Zed (la lb : List Val) (p q : PV) (hp : LC la p) (hq : LC lb q)
    (ih : ∀ (j : Nat) (v : Val) (cs : List PV), la[j]? = some v → At 4 p j cs → ∀ (w : Val) (ds : List PV), VC w ds → T.R (.call Z0h [.agg cs, .agg ds] (.int .i64 (Zbq v w)))) :
    T.R (.call Z3q [p, q, .func Z0h []] (.int .i64 (Z2y la lb))) := by
  obtain ⟨lp1, lp2, lp3⟩ := hp.len
  obtain ⟨lq1, lq2, lq3⟩ := hq.len
  have hl := fun e h0 h1 h2 h3 h4 h5 => cmpf_loop la lb p q hp hq ih la lb [] e rfl rfl h0 h1 h2 h3 h4 h5
  generalize hc : Z2y la lb = r at hl ⊢
  refine Zo rfl rfl ?_
  repeat' first | refine Z55 rfl (hl _ rfl rfl rfl rfl rfl rfl) ?_ | refine Z3 rfl ?_ | ((with_reducible show VO _ _ _ _ _ _ _); first | refine Z0r rfl lp1 lp2 ?_ | refine Z0 rfl ?_ | refine Z4 ?_)
  rintro x e' st' (⟨rfl, rfl, rfl, h⟩ | ⟨rfl, rfl⟩)
  · rw [hc] at h
    repeat' first | ((with_reducible show V _ _ _ _ _ _); first | refine Z3 rfl ?_ | refine Z86 rfl rfl (fun _ => ?_) (fun _ => ?_) | refine Zl rfl rfl ?_) | ((with_reducible show VO _ _ _ _ _ _ _); first | refine Z0r rfl lp1 lp2 ?_ | refine Z0r rfl lq1 lq2 ?_ | refine Z0 rfl ?_ | refine Z4 ?_)
    all_goals simp only [decide_eq_true_eq, decide_eq_false_iff_not] at *
    · rw [h, if_pos (by omega)]
    · rw [h, if_neg (by omega)]
  · rw [hc]
    repeat' first | refine Zl rfl rfl ?_
    all_goals rfl
theorem run_Compare {a : Val} {ca : List PV} (ha : VC a ca) : ∀ (b : Val) (cb : List PV), VC b cb → T.R (.call Z0h [.agg ca, .agg cb] (.int .i64 (Zbq a b))) := by
  refine VC.ind (M := fun a ca => ∀ (b : Val) (cb : List PV), VC b cb → T.R (.call Z0h [.agg ca, .agg cb] (.int .i64 (Zbq a b)))) ?_ ha
  rintro k n s l p hk hn hs hp ih ⟨k', n', s', l'⟩ cb hb
  obtain ⟨hk', hn', hs', q, rfl, hq⟩ := hb.open
  have h1 := run_cmpInt k k'
  have h2 := run_cmpInt64 n n'
  have h3 := Zfy s s'
  have h4 := Zed l l' p q hp hq ih
  have plp := hp.pl
  have plq := hq.pl
  have h5 := run_Or4 (Zfm k k') (Zfm n n') (Zcx s s') (Z2y l l') true
  refine Zo rfl rfl ?_
  repeat' first | ((with_reducible show V _ _ _ _ _ _); first | refine Z3 rfl ?_ | refine Zl rfl rfl ?_ | refine V_D rfl ?_) | ((with_reducible show VO _ _ _ _ _ _ _); first | refine Z9 rfl ?_ | refine Z0 rfl ?_ | refine Z4 ?_) | ((with_reducible show VD _ _ _ _ _ _ _); first | refine D_cA rfl rfl h1 ?_ | refine D_cA rfl rfl h2 ?_ | refine D_cA rfl rfl h3 ?_ | refine D_cA rfl rfl h4 ?_ | refine D_cA rfl rfl h5 ?_ | refine Z2g rfl ?_ | refine Zbn ?_)
  all_goals (unfold Zbq; rfl)
theorem run_Same {a b : Val} {ca cb : List PV} (ha : VC a ca) (hb : VC b cb) : T.R (.call Zb3 [.agg ca, .agg cb] (.bool (decide (Zbq a b = 0)))) := by
  have h := run_Compare2 ha b cb hb
  generalize Zbq a b = r at h ⊢
  obtain ⟨k, n, s, l⟩ := a
  obtain ⟨k', n', s', l'⟩ := b
  obtain ⟨hk, hn, hs, p, rfl, hp⟩ := ha.open
  obtain ⟨hk', hn', hs', q, rfl, hq⟩ := hb.open
  have plp := hp.pl
  have plq := hq.pl
  refine Zo rfl rfl ?_
  repeat' first | refine Z3 rfl ?_ | refine Zl rfl rfl ?_ | ((with_reducible show VO _ _ _ _ _ _ _); first | refine Z9 rfl ?_ | refine Z8 rfl rfl h ?_ | refine Z0 rfl ?_ | refine Z4 ?_)
  all_goals rfl
def Z8s : List Val → Bool
  | a :: _ :: c :: r => decide (Zbq a c < 0) && Z8s (c :: r)
  | _ => true
def Zr : Nat → Val → Bool
  | 0, _ => false
  | f + 1, .mk k n s l =>
    if k = 1 then decide (s = []) && decide ((l.length : Int) = 0)
    else if k = 3 then decide (s = []) && decide ((l.length : Int) = 0) && (decide (n = 0) || decide (n = 1))
    else if k = 6 then decide (s = []) && decide ((l.length : Int) = 0) && decide (1 ≤ n) && decide (n ≤ 281474976710656)
    else if k = 7 then decide (s = []) && decide ((l.length : Int) = 0) && decide (1 ≤ n) && decide (n ≤ 281474976710656)
    else if k = 2 then decide (n = 0) && decide ((l.length : Int) = 0) && decide ((s.length : Int) ≤ 128)
    else if k = 4 then decide (n = 0) && decide (s = []) && decide ((l.length : Int) ≤ 256) && l.all (Zr f)
    else if k = 5 then decide (n = 0) && decide (s = []) && decide ((l.length : Int) ≤ 512) && decide ((l.length : Int).tmod 2 = 0) && l.all (Zr f) && Z8s l
    else false
inductive NT where
  | ends
  | form
  | ok (u n : Nat)
def NT.up (c : Nat) : NT → NT
  | .ok u n => .ok (c + 128 * u) (n + 1)
  | t => t
def NT.at (u i : Nat) : NT → NT
  | .ok v n => .ok (u + 128 ^ i * v) (i + n)
  | t => t
theorem NT.at_up (u i c : Nat) (t : NT) : NT.at u i (NT.up c t) = NT.at (u + 128 ^ i * c) (i + 1) t := by
  cases t with
  | ends => rfl
  | form => rfl
  | ok v n =>
    simp only [NT.at, NT.up, Nat.pow_succ, Nat.mul_add, Nat.mul_assoc, NT.ok.injEq]
    exact ⟨by omega, by omega⟩
def Zfv : Nat → Nat → List UInt8 → NT
  | 0, _, _ => .form
  | _ + 1, _, [] => .ends
  | m + 1, i, c :: r => if 127 < c.toNat then NT.up (c.toNat % 128) (Zfv m (i + 1) r) else if (0 < i ∧ c.toNat = 0) ∨ (i = 9 ∧ 1 < c.toNat) then .form else .ok c.toNat 1
def ntPV : NT → PV
  | .ends => .tuple [.int .u64 0, .int .i64 0, .int .i64 11]
  | .form => .tuple [.int .u64 0, .int .i64 0, .int .i64 12]
  | .ok u n => .tuple [.int .u64 u, .int .i64 n, .int .i64 0]
def ntP (t : NT) : EX → EC → St → Prop := fun x e' st' => st' = emptySt ∧ ((x = .exit 0 ∧ t = .form ∧ e' = .nil) ∨ (x = .ret ∧ ∃ u n e : Int, ntPV t = .tuple [.int .u64 u, .int .i64 n, .int .i64 e] ∧ e' = .put 2 (.int .u64 u) (.put 3 (.int .i64 n) (.put 4 (.int .i64 e) .nil))))
theorem and127 (c : UInt8) : IntKind.u8.wrap ((BitVec.ofInt 8 (c.toNat : Int) &&& BitVec.ofInt 8 127).toNat : Int) = ((c.toNat % 128 : Nat) : Int) := by
  have h2 : ∀ b : BitVec 8, (b &&& 127#8).toNat = b.toNat % 128 := by decide
  have h3 : BitVec.ofInt 8 (c.toNat : Int) = BitVec.ofNat 8 c.toNat := by rw [BitVec.ofInt_natCast]
  have h4 : BitVec.ofInt 8 127 = 127#8 := rfl
  have hc := c.toNat_lt
  rw [h3, h4, h2, Z9b, BitVec.toNat_ofNat]
  omega
theorem pow27 (i : Nat) : 2 ^ (7 * i) = 128 ^ i := by rw [Nat.pow_mul]
theorem or_at {u c i : Nat} (hi : i ≤ 9) (hc : c < 128) : ∃ u' : Nat, IntKind.u64.wrap ((BitVec.ofInt 64 (u : Int) ||| BitVec.ofInt 64 (IntKind.u64.wrap ((c : Int) * 2 ^ (min ((7 * i : Nat) : Int).toNat IntKind.u64.bits)))).toNat : Int) = (u' : Int) ∧ (u < 128 ^ i → i ≤ 8 ∨ c ≤ 1 → u' = u + 128 ^ i * c) := by
  have hm : min ((7 * i : Nat) : Int).toNat IntKind.u64.bits = 7 * i := by
    show min ((7 * i : Nat) : Int).toNat 64 = 7 * i
    omega
  rw [hm]
  refine ⟨(BitVec.ofInt 64 (u : Int) ||| BitVec.ofInt 64 (IntKind.u64.wrap ((c : Int) * 2 ^ (7 * i)))).toNat, ?_, ?_⟩
  · rw [Z0p]
    have := (BitVec.ofInt 64 (u : Int) ||| BitVec.ofInt 64 (IntKind.u64.wrap ((c : Int) * 2 ^ (7 * i)))).isLt
    omega
  · intro hu hic
    have hcm : ((c : Int) * 2 ^ (7 * i)) = ((c * 128 ^ i : Nat) : Int) := by rw [← pow27]; push_cast; rfl
    have hle : 128 ^ i ≤ 128 ^ 9 := Nat.pow_le_pow_right (by omega) hi
    have h9 : (128 : Nat) ^ 9 = 9223372036854775808 := by decide
    have h8 : (128 : Nat) ^ 8 = 72057594037927936 := by decide
    have hlt : c * 128 ^ i < 18446744073709551616 := by
      rcases hic with h | h
      · have : 128 ^ i ≤ 128 ^ 8 := Nat.pow_le_pow_right (by omega) h
        have : c * 128 ^ i ≤ 127 * 72057594037927936 := Nat.mul_le_mul (by omega) (by omega)
        omega
      · have : c * 128 ^ i ≤ 1 * 9223372036854775808 := Nat.mul_le_mul h (by omega)
        omega
    have hw : IntKind.u64.wrap ((c * 128 ^ i : Nat) : Int) = ((c * 128 ^ i : Nat) : Int) := by rw [Z0p]; omega
    rw [hcm, hw, BitVec.toNat_or, BitVec.ofInt_natCast, BitVec.ofInt_natCast, BitVec.toNat_ofNat, BitVec.toNat_ofNat, Nat.mod_eq_of_lt (by omega), Nat.mod_eq_of_lt hlt, ← pow27, Nat.or_comm, ← Nat.shiftLeft_eq]
    rw [← Nat.shiftLeft_add_eq_or_of_lt (by rw [pow27]; exact hu), Nat.shiftLeft_eq]
    rw [Nat.mul_comm c]
    omega
set_option maxHeartbeats 4000000 in
theorem ntake_loop (p : PV) (b0 : List UInt8) (hp : BV p b0) : ∀ (m i u : Nat) (rest pre : List UInt8) (e : EC), m + i = 10 → b0 = pre ++ rest → pre.length = i → (m ≠ 0 → u < 128 ^ i) → e.get 0 = some p → e.get 5 = some (.int .u64 u) → e.get 7 = some (.int .i64 i) →
    V T (PE (ntP (NT.at u i (Zfv m i rest)))) [.code (.loop Z6s)] .normal e emptySt := by
  intro m
  have out : ∀ (t : NT) (fr : List Fr) (x : EX) (e' : EC), t = .form → Zi 200 fr x = ([], .exit 0) → V T (PE (ntP t)) fr x e' emptySt := fun t fr x e' ht hadv =>
    Zj .nil Zk (Z1y hadv ⟨rfl, .inl ⟨rfl, ht, rfl⟩⟩)
  have ret : ∀ (t : NT) (fr : List Fr) (x : EX) (e' : EC) (u n e : Int), ntPV t = .tuple [.int .u64 u, .int .i64 n, .int .i64 e] → Zi 200 fr x = ([], .ret) → e'.get 2 = some (.int .u64 u) → e'.get 3 = some (.int .i64 n) → e'.get 4 = some (.int .i64 e) → V T (PE (ntP t)) fr x e' emptySt := fun t fr x e' u n e ht hadv g2 g3 g4 =>
    Zj (.put 2 _ (.put 3 _ (.put 4 _ .nil))) (Z2 g2 (Z2 g3 (Z2 g4 Zk))) (Z1y hadv ⟨rfl, .inr ⟨rfl, u, n, e, ht, rfl⟩⟩)
  induction m with
  | zero =>
    intro i u rest pre e hmi hb hi hu h0 h5 h7
    have hlt : ¬ ((i : Int) < 10) := by omega
    refine Zj (.put 0 p (.put 5 _ (.put 7 _ .nil))) (Z2 h0 (Z2 h5 (Z2 h7 Zk))) (Zn ?_)
    repeat' first | refine Z3 rfl ?_ | refine Ze rfl rfl ?_ | refine Z6 (Z07 hlt) rfl ?_ | refine Z4 ?_ | refine out _ _ _ _ rfl rfl
  | succ m ih =>
    intro i u rest pre e hmi hb hi hu h0 h5 h7
    have hlt : (i : Int) < 10 := by omega
    cases rest with
    | nil =>
      have heq : (i : Int) = (b0.length : Int) := by subst hb; simp; omega
      refine Zj (.put 0 p (.put 5 _ (.put 7 _ .nil))) (Z2 h0 (Z2 h5 (Z2 h7 Zk))) (Zn ?_)
      clear ih
      repeat' first | refine Z3 rfl ?_ | refine Zb rfl rfl ?_ | ((with_reducible show VO _ _ _ _ _ _ _); first | refine Z0a rfl hp ?_ | refine Z6 (Z0o hlt) rfl ?_ | refine Z6 (Z0o heq) rfl ?_ | refine Z0 rfl ?_ | refine Z4 ?_) | refine ret .ends _ _ _ _ _ _ rfl rfl rfl rfl rfl
    | cons c rest =>
      have heq : ¬ (i : Int) = (b0.length : Int) := by subst hb; simp; omega
      have hc := c.toNat_lt
      have hat := hp.at (n := (i : Int)) (b := c) (by omega) (by subst hb; simp [hi])
      have hand := Z6g (k := .u8) (and127 c)
      have hcv : PV.int .u64 (IntKind.u64.wrap ((c.toNat % 128 : Nat) : Int)) = PV.int .u64 ((c.toNat % 128 : Nat) : Int) := Z6g (by rw [Z0p]; omega)
      have h7i : PV.int .i64 (IntKind.i64.wrap (7 * (i : Int))) = PV.int .i64 ((7 * i : Nat) : Int) := Z6g (by rw [Z06]; omega)
      obtain ⟨u', hu', hu2⟩ := or_at (u := u) (c := c.toNat % 128) (i := i) (by omega) (by omega)
      have hor := Z6g (k := .u64) hu'
      have hw : PV.int .i64 (IntKind.i64.wrap ((i : Int) + 1)) = PV.int .i64 ((i + 1 : Nat) : Int) := Z6g (by rw [Z06]; omega)
      have h70 : ¬ ((7 * i : Nat) : Int) < 0 := by omega
      by_cases hgt : 127 < c.toNat
      · have hd : Zfv (m + 1) i (c :: rest) = NT.up (c.toNat % 128) (Zfv m (i + 1) rest) := by simp only [Zfv]; rw [if_pos hgt]
        have hgt' : (127 : Int) < (c.toNat : Int) := by omega
        have fin : ∀ (fr : List Fr) (x : EX) (e' : EC), Zi 200 fr x = ([.code (.loop Z6s)], .normal) → e'.get 0 = some p → e'.get 5 = some (.int .u64 u') → e'.get 7 = some (.int .i64 ((i + 1 : Nat) : Int)) → V T (PE (ntP (NT.at u i (Zfv (m + 1) i (c :: rest))))) fr x e' emptySt := fun fr x e' hadv g0 g5 g7 => Z38 hadv (by
          rw [hd, NT.at_up]
          by_cases hm0 : m = 0
          · subst hm0
            have ha : NT.at (u + 128 ^ i * (c.toNat % 128)) (i + 1) (Zfv 0 (i + 1) rest) = NT.at u' (i + 1) (Zfv 0 (i + 1) rest) := rfl
            rw [ha]
            exact ih (i + 1) u' rest (pre ++ [c]) e' (by omega) (by rw [hb]; simp) (by simp [hi]) (fun h => absurd rfl h) g0 g5 g7
          · have hu3 := hu2 (hu (by omega)) (.inl (by omega))
            rw [← hu3]
            refine ih (i + 1) u' rest (pre ++ [c]) e' (by omega) (by rw [hb]; simp) (by simp [hi]) (fun _ => ?_) g0 g5 g7
            have hui := hu (by omega)
            have h3 : 128 ^ i * (c.toNat % 128) ≤ 128 ^ i * 127 := Nat.mul_le_mul_left _ (by omega)
            rw [hu3, Nat.pow_succ]
            omega)
        refine Zj (.put 0 p (.put 5 _ (.put 7 _ .nil))) (Z2 h0 (Z2 h5 (Z2 h7 Zk))) (Zn ?_)
        clear ih out ret
        repeat' first | ((with_reducible show V _ _ _ _ _ _); first | refine Z3 rfl ?_ | refine Zb rfl rfl ?_ | refine Ze rfl rfl ?_) | ((with_reducible show VO _ _ _ _ _ _ _); first | refine Z0a rfl hp ?_ | refine Zh rfl rfl hat ?_ | refine Z6 (Z0o hlt) rfl ?_ | refine Z6 (Z07 heq) rfl ?_ | refine Z6 hand rfl ?_ | refine Z6 hcv rfl ?_ | refine Z6 h7i rfl ?_ | refine O_shl rfl rfl h70 ?_ | refine Z6 hor rfl ?_ | refine Z6 (Z0o hgt') rfl ?_ | refine Z6 hw rfl ?_ | refine Z0 rfl ?_ | refine Z4 ?_) | refine fin _ _ _ rfl rfl rfl rfl
      · have hgt' : ¬ (127 : Int) < (c.toNat : Int) := by omega
        clear ih
        have hmod : c.toNat % 128 = c.toNat := by omega
        have okr : ¬ ((0 < i ∧ c.toNat = 0) ∨ (i = 9 ∧ 1 < c.toNat)) → NT.at u i (Zfv (m + 1) i (c :: rest)) = .ok u' (i + 1) := fun h => by
          simp only [Zfv]
          rw [if_neg hgt, if_neg h]
          simp only [NT.at]
          rw [hu2 (hu (by omega)) (by omega), hmod]
        have fo : ((0 < i ∧ c.toNat = 0) ∨ (i = 9 ∧ 1 < c.toNat)) → NT.at u i (Zfv (m + 1) i (c :: rest)) = .form := fun h => by
          simp only [Zfv]
          rw [if_neg hgt, if_pos h]
          rfl
        by_cases i0 : 0 < i
        · have i0' : (0 : Int) < (i : Int) := by omega
          by_cases c0 : c.toNat = 0
          · have c0' : (c.toNat : Int) = 0 := by omega
            have t0 := fo (.inl ⟨i0, c0⟩)
            refine Zj (.put 0 p (.put 5 _ (.put 7 _ .nil))) (Z2 h0 (Z2 h5 (Z2 h7 Zk))) (Zn ?_)
            repeat' first | ((with_reducible show V _ _ _ _ _ _); first | refine Z3 rfl ?_ | refine Zb rfl rfl ?_ | refine Ze rfl rfl ?_) | ((with_reducible show VO _ _ _ _ _ _ _); first | refine Z0a rfl hp ?_ | refine Zh rfl rfl hat ?_ | refine Z6 (Z0o hlt) rfl ?_ | refine Z6 (Z07 heq) rfl ?_ | refine Z6 hand rfl ?_ | refine Z6 hcv rfl ?_ | refine Z6 h7i rfl ?_ | refine O_shl rfl rfl h70 ?_ | refine Z6 hor rfl ?_ | refine Z6 (Z07 hgt') rfl ?_ | refine Z6 (Z0o i0') rfl ?_ | refine Z6 (Z0o c0') rfl ?_ | refine Z0 rfl ?_ | refine Z4 ?_ | refine Zq rfl ?_ | refine O_gU' rfl ?_ | refine Z19 rfl rfl ?_) | refine out _ _ _ _ t0 rfl
          · have c0' : ¬ (c.toNat : Int) = 0 := by omega
            by_cases i9 : i = 9
            · have i9' : (i : Int) = 9 := by omega
              by_cases c1 : 1 < c.toNat
              · have c1' : (1 : Int) < (c.toNat : Int) := by omega
                have t0 := fo (.inr ⟨i9, c1⟩)
                refine Zj (.put 0 p (.put 5 _ (.put 7 _ .nil))) (Z2 h0 (Z2 h5 (Z2 h7 Zk))) (Zn ?_)
                repeat' first | ((with_reducible show V _ _ _ _ _ _); first | refine Z3 rfl ?_ | refine Zb rfl rfl ?_ | refine Ze rfl rfl ?_) | ((with_reducible show VO _ _ _ _ _ _ _); first | refine Z0a rfl hp ?_ | refine Zh rfl rfl hat ?_ | refine Z6 (Z0o hlt) rfl ?_ | refine Z6 (Z07 heq) rfl ?_ | refine Z6 hand rfl ?_ | refine Z6 hcv rfl ?_ | refine Z6 h7i rfl ?_ | refine O_shl rfl rfl h70 ?_ | refine Z6 hor rfl ?_ | refine Z6 (Z07 hgt') rfl ?_ | refine Z6 (Z0o i0') rfl ?_ | refine Z6 (Z07 c0') rfl ?_ | refine Z6 (Z0o i9') rfl ?_ | refine Z6 (Z0o c1') rfl ?_ | refine Z0 rfl ?_ | refine Z4 ?_ | refine Zq rfl ?_) | refine out _ _ _ _ t0 rfl
              · have c1' : ¬ (1 : Int) < (c.toNat : Int) := by omega
                have t0 := okr (by omega)
                rw [t0]
                refine Zj (.put 0 p (.put 5 _ (.put 7 _ .nil))) (Z2 h0 (Z2 h5 (Z2 h7 Zk))) (Zn ?_)
                repeat' first | ((with_reducible show V _ _ _ _ _ _); first | refine Z3 rfl ?_ | refine Zb rfl rfl ?_ | refine Ze rfl rfl ?_) | ((with_reducible show VO _ _ _ _ _ _ _); first | refine Z0a rfl hp ?_ | refine Zh rfl rfl hat ?_ | refine Z6 (Z0o hlt) rfl ?_ | refine Z6 (Z07 heq) rfl ?_ | refine Z6 hand rfl ?_ | refine Z6 hcv rfl ?_ | refine Z6 h7i rfl ?_ | refine O_shl rfl rfl h70 ?_ | refine Z6 hor rfl ?_ | refine Z6 (Z07 hgt') rfl ?_ | refine Z6 hw rfl ?_ | refine Z6 (Z0o i0') rfl ?_ | refine Z6 (Z07 c0') rfl ?_ | refine Z6 (Z0o i9') rfl ?_ | refine Z6 (Z07 c1') rfl ?_ | refine Z0 rfl ?_ | refine Z4 ?_ | refine Zq rfl ?_) | refine ret (.ok u' (i + 1)) _ _ _ _ _ _ rfl rfl rfl rfl rfl
            · have i9' : ¬ (i : Int) = 9 := by omega
              have t0 := okr (by omega)
              rw [t0]
              refine Zj (.put 0 p (.put 5 _ (.put 7 _ .nil))) (Z2 h0 (Z2 h5 (Z2 h7 Zk))) (Zn ?_)
              repeat' first | ((with_reducible show V _ _ _ _ _ _); first | refine Z3 rfl ?_ | refine Zb rfl rfl ?_ | refine Ze rfl rfl ?_) | ((with_reducible show VO _ _ _ _ _ _ _); first | refine Z0a rfl hp ?_ | refine Zh rfl rfl hat ?_ | refine Z6 (Z0o hlt) rfl ?_ | refine Z6 (Z07 heq) rfl ?_ | refine Z6 hand rfl ?_ | refine Z6 hcv rfl ?_ | refine Z6 h7i rfl ?_ | refine O_shl rfl rfl h70 ?_ | refine Z6 hor rfl ?_ | refine Z6 (Z07 hgt') rfl ?_ | refine Z6 hw rfl ?_ | refine Z6 (Z0o i0') rfl ?_ | refine Z6 (Z07 c0') rfl ?_ | refine Z6 (Z07 i9') rfl ?_ | refine Z0 rfl ?_ | refine Z4 ?_ | refine Zq rfl ?_ | refine Z19 rfl rfl ?_) | refine ret (.ok u' (i + 1)) _ _ _ _ _ _ rfl rfl rfl rfl rfl
        · have i0' : ¬ (0 : Int) < (i : Int) := by omega
          have i9' : ¬ (i : Int) = 9 := by omega
          have t0 := okr (by omega)
          rw [t0]
          refine Zj (.put 0 p (.put 5 _ (.put 7 _ .nil))) (Z2 h0 (Z2 h5 (Z2 h7 Zk))) (Zn ?_)
          repeat' first | ((with_reducible show V _ _ _ _ _ _); first | refine Z3 rfl ?_ | refine Zb rfl rfl ?_ | refine Ze rfl rfl ?_) | ((with_reducible show VO _ _ _ _ _ _ _); first | refine Z0a rfl hp ?_ | refine Zh rfl rfl hat ?_ | refine Z6 (Z0o hlt) rfl ?_ | refine Z6 (Z07 heq) rfl ?_ | refine Z6 hand rfl ?_ | refine Z6 hcv rfl ?_ | refine Z6 h7i rfl ?_ | refine O_shl rfl rfl h70 ?_ | refine Z6 hor rfl ?_ | refine Z6 (Z07 hgt') rfl ?_ | refine Z6 hw rfl ?_ | refine Z6 (Z07 i0') rfl ?_ | refine Z6 (Z07 i9') rfl ?_ | refine Z0 rfl ?_ | refine Z4 ?_ | refine Zq rfl ?_ | refine Z19 rfl rfl ?_) | refine ret (.ok u' (i + 1)) _ _ _ _ _ _ rfl rfl rfl rfl rfl
theorem NT.at_zero (t : NT) : NT.at 0 0 t = t := by cases t <;> simp [NT.at]
theorem run_NTake {p : PV} {b : List UInt8} (hp : BV p b) : T.R (.call n_num_Take [p] (ntPV (Zfv 10 0 b))) := by
  have hl := fun e h0 h5 h7 => ntake_loop p b hp 10 0 0 b [] e rfl rfl rfl (fun _ => by omega) h0 h5 h7
  rw [NT.at_zero] at hl
  have plp := hp.pl
  refine Zo rfl rfl ?_
  repeat' first | refine Z55 rfl (hl _ rfl rfl rfl) ?_ | refine Z3 rfl ?_ | refine Z0 rfl ?_ | refine Z4 ?_
  rintro x e' st' ⟨rfl, ⟨rfl, ht, rfl⟩ | ⟨rfl, u, n, e, ht, rfl⟩⟩
  · rw [ht]
    repeat' first | refine Z3 rfl ?_ | refine Zl rfl rfl ?_ | refine Z0 rfl ?_ | refine Z4 ?_
    rfl
  · rw [ht]
    exact Z5z rfl rfl (Pl.view (by (repeat' (first | exact Pl.int _ _ | exact Pl.bool _ | exact Pl.str _ | exact Pl.nilSl | exact Z45 | refine Z0k ?_ ?_ | refine Pl.tuple _ ?_ | refine Pl.agg _ ?_ | refine Pl.func _ _ ?_ | assumption | refine Pl.iptr _ _ ?_ | exact Z9k | refine Z6n ?_ ?_ | refine Pl.sl _ _ ?_)); first | done | fail)) rfl
def stM (cs : List PV) (d : Int) : St := ⟨0, 2, [(0, .var cs), (1, .var [.int .i64 d])]⟩
def riseP (S : St) (l : List Val) : EX → EC → St → Prop := fun x e' st' => st' = S ∧ ((x = .exit 1 ∧ e' = .put 2 (.ptr 0 0) (.put 3 (.ptr 1 0) .nil) ∧ Z8s l = true) ∨ (x = .ret ∧ e' = .put 4 (.bool false) .nil ∧ Z8s l = false))
theorem rise_loop (k n d : Int) (s : List UInt8) (l : List Val) (p : PV) (hp : LC l p) :
    ∀ (m : Nat) (ra pre : List Val) (e : EC), ra.length ≤ m → l = pre ++ ra → Z8s l = Z8s ra → (ra ≠ [] ∨ l = []) → e.get 2 = some (.ptr 0 0) → e.get 3 = some (.ptr 1 0) → e.get 6 = some (.int .i64 (pre.length + 2)) →
    V T (PE (riseP (stM [.int .i64 k, .int .i64 n, .str s, p] d) l)) [.code (.loop Z5q)] .normal e (stM [.int .i64 k, .int .i64 n, .str s, p] d) := by
  obtain ⟨lp1, lp2, lp3⟩ := hp.len
  intro m
  induction m with
  | zero =>
    intro ra pre e hm hl hr hne h2 h3 h6
    have hra : ra = [] := by cases ra with
      | nil => rfl
      | cons y ra => simp at hm
    have hl0 : l = [] := by rcases hne with h | h
                            · exact absurd hra h
                            · exact h
    have hpre : pre = [] := by rw [hl0] at hl; simp at hl; exact hl.1
    have out : ∀ (fr : List Fr) (x : EX) (e' : EC), Zi 200 fr x = ([], .exit 1) → e'.get 2 = some (.ptr 0 0) → e'.get 3 = some (.ptr 1 0) → V T (PE (riseP (stM [.int .i64 k, .int .i64 n, .str s, p] d) l)) fr x e' (stM [.int .i64 k, .int .i64 n, .str s, p] d) := fun fr x e' hadv g2 g3 =>
      Zj (.put 2 _ (.put 3 _ .nil)) (Z2 g2 (Z2 g3 Zk)) (Z1y hadv ⟨rfl, .inl ⟨rfl, rfl, by rw [hl0]; rfl⟩⟩)
    refine Zj (.put 2 _ (.put 3 _ (.put 6 _ .nil))) (Z2 h2 (Z2 h3 (Z2 h6 Zk))) (Zn ?_)
    repeat' first | ((with_reducible show V _ _ _ _ _ _); first | refine Z3 rfl ?_ | refine Z86 rfl rfl (fun _ => ?_) (fun _ => ?_) | refine V_D rfl ?_) | ((with_reducible show VO _ _ _ _ _ _ _); first | refine Z0r rfl lp1 lp2 ?_ | refine Z0 rfl ?_ | refine Z4 ?_) | refine Z2g rfl ?_ | refine out _ _ _ rfl rfl rfl
    all_goals (exfalso; clear out; subst hl0 hpre; simp at *)
  | succ m ihr =>
    intro ra pre e hm hl hr hne h2 h3 h6
    match ra, hm, hl, hr, hne with
    | [], hm, hl, hr, hne => exact ihr [] pre e (by simp) hl hr hne h2 h3 h6
    | [y], hm, hl, hr, hne =>
      have out : ∀ (fr : List Fr) (x : EX) (e' : EC), Zi 200 fr x = ([], .exit 1) → e'.get 2 = some (.ptr 0 0) → e'.get 3 = some (.ptr 1 0) → V T (PE (riseP (stM [.int .i64 k, .int .i64 n, .str s, p] d) l)) fr x e' (stM [.int .i64 k, .int .i64 n, .str s, p] d) := fun fr x e' hadv g2 g3 =>
        Zj (.put 2 _ (.put 3 _ .nil)) (Z2 g2 (Z2 g3 Zk)) (Z1y hadv ⟨rfl, .inl ⟨rfl, rfl, by rw [hr]; rfl⟩⟩)
      refine Zj (.put 2 _ (.put 3 _ (.put 6 _ .nil))) (Z2 h2 (Z2 h3 (Z2 h6 Zk))) (Zn ?_)
      repeat' first | ((with_reducible show V _ _ _ _ _ _); first | refine Z3 rfl ?_ | refine Z86 rfl rfl (fun _ => ?_) (fun _ => ?_) | refine V_D rfl ?_) | ((with_reducible show VO _ _ _ _ _ _ _); first | refine Z0r rfl lp1 lp2 ?_ | refine Z0 rfl ?_ | refine Z4 ?_) | refine Z2g rfl ?_ | refine out _ _ _ rfl rfl rfl
      all_goals (exfalso; clear out; subst hl; simp at *; try omega)
    | [y, z], hm, hl, hr, hne =>
      have out : ∀ (fr : List Fr) (x : EX) (e' : EC), Zi 200 fr x = ([], .exit 1) → e'.get 2 = some (.ptr 0 0) → e'.get 3 = some (.ptr 1 0) → V T (PE (riseP (stM [.int .i64 k, .int .i64 n, .str s, p] d) l)) fr x e' (stM [.int .i64 k, .int .i64 n, .str s, p] d) := fun fr x e' hadv g2 g3 =>
        Zj (.put 2 _ (.put 3 _ .nil)) (Z2 g2 (Z2 g3 Zk)) (Z1y hadv ⟨rfl, .inl ⟨rfl, rfl, by rw [hr]; rfl⟩⟩)
      refine Zj (.put 2 _ (.put 3 _ (.put 6 _ .nil))) (Z2 h2 (Z2 h3 (Z2 h6 Zk))) (Zn ?_)
      repeat' first | ((with_reducible show V _ _ _ _ _ _); first | refine Z3 rfl ?_ | refine Z86 rfl rfl (fun _ => ?_) (fun _ => ?_) | refine V_D rfl ?_) | ((with_reducible show VO _ _ _ _ _ _ _); first | refine Z0r rfl lp1 lp2 ?_ | refine Z0 rfl ?_ | refine Z4 ?_) | refine Z2g rfl ?_ | refine out _ _ _ rfl rfl rfl
      all_goals (exfalso; clear out; subst hl; simp at *)
    | y :: z :: w :: ra, hm, hl, hr, hne =>
      have hlt : pre.length + 2 < l.length := by subst hl; simp
      have hy : l[pre.length]? = some y := by subst hl; simp
      have hw : l[pre.length + 2]? = some w := by subst hl; simp
      obtain ⟨cy, ay, vy⟩ := hp.at hy
      obtain ⟨cw, aw, vw⟩ := hp.at hw
      have ply := vy.pl
      have plw := vw.pl
      have hcall := run_Compare vy w cw vw
      have ay' : At 4 p (IntKind.i64.wrap ((pre.length : Int) + 2 - 2)) cy := by
        have : IntKind.i64.wrap ((pre.length : Int) + 2 - 2) = (pre.length : Int) := by rw [Z06]; omega
        rw [this]; exact ay
      have aw' : At 4 p ((pre.length : Int) + 2) cw := by
        have : ((pre.length + 2 : Nat) : Int) = (pre.length : Int) + 2 := by omega
        rw [← this]; exact aw
      have hr' : Z8s l = (decide (Zbq y w < 0) && Z8s (w :: ra)) := by rw [hr]; rfl
      generalize Zbq y w = r at hcall hr'
      by_cases hrr : r < 0
      · have fin : ∀ (fr : List Fr) (x : EX) (e' : EC), Zi 200 fr x = ([.code (.loop Z5q)], .normal) → e'.get 2 = some (.ptr 0 0) → e'.get 3 = some (.ptr 1 0) → e'.get 6 = some (.int .i64 (IntKind.i64.wrap ((pre.length : Int) + 2 + 2))) → V T (PE (riseP (stM [.int .i64 k, .int .i64 n, .str s, p] d) l)) fr x e' (stM [.int .i64 k, .int .i64 n, .str s, p] d) := fun fr x e' hadv g2 g3 g6 => Z38 hadv (by
          have hw : IntKind.i64.wrap ((pre.length : Int) + 2 + 2) = ((pre ++ [y, z]).length : Int) + 2 := by rw [Z06]; simp; omega
          rw [hw] at g6
          exact ihr (w :: ra) (pre ++ [y, z]) e' (by simp at hm ⊢; omega) (by rw [hl]; simp) (by rw [hr', decide_eq_true hrr]; rfl) (.inl (by simp)) g2 g3 g6)
        refine Zj (.put 2 _ (.put 3 _ (.put 6 _ .nil))) (Z2 h2 (Z2 h3 (Z2 h6 Zk))) (Zn ?_)
        repeat' first | ((with_reducible show V _ _ _ _ _ _); first | refine Z3 rfl ?_ | refine Z86 rfl rfl (fun _ => ?_) (fun _ => ?_) | refine V_D rfl ?_) | ((with_reducible show VO _ _ _ _ _ _ _); first | refine Z0r rfl lp1 lp2 ?_ | refine Z0 rfl ?_ | refine Z4 ?_) | ((with_reducible show VD _ _ _ _ _ _ _); first | refine D_at rfl rfl ay' ?_ | refine D_at rfl rfl aw' ?_ | refine Z87 rfl vy.len4 ?_ | refine Z87 rfl vw.len4 ?_ | refine D_cA rfl rfl hcall ?_ | refine Z2g rfl ?_ | refine Zbn ?_) | refine fin _ _ _ rfl rfl rfl rfl
        all_goals (exfalso; clear fin ihr hcall; simp at *; try omega)
      · have ret : ∀ (fr : List Fr) (x : EX) (e' : EC), Zi 200 fr x = ([], .ret) → e'.get 4 = some (.bool false) → V T (PE (riseP (stM [.int .i64 k, .int .i64 n, .str s, p] d) l)) fr x e' (stM [.int .i64 k, .int .i64 n, .str s, p] d) := fun fr x e' hadv g0 =>
          Zj (.put 4 _ .nil) (Z2 g0 Zk) (Z1y hadv ⟨rfl, .inr ⟨rfl, rfl, by rw [hr', decide_eq_false hrr]; rfl⟩⟩)
        refine Zj (.put 2 _ (.put 3 _ (.put 6 _ .nil))) (Z2 h2 (Z2 h3 (Z2 h6 Zk))) (Zn ?_)
        repeat' first | ((with_reducible show V _ _ _ _ _ _); first | refine Z3 rfl ?_ | refine Z86 rfl rfl (fun _ => ?_) (fun _ => ?_) | refine V_D rfl ?_) | ((with_reducible show VO _ _ _ _ _ _ _); first | refine Z0r rfl lp1 lp2 ?_ | refine Z0 rfl ?_ | refine Z4 ?_) | ((with_reducible show VD _ _ _ _ _ _ _); first | refine D_at rfl rfl ay' ?_ | refine D_at rfl rfl aw' ?_ | refine Z87 rfl vy.len4 ?_ | refine Z87 rfl vw.len4 ?_ | refine D_cA rfl rfl hcall ?_ | refine Z2g rfl ?_ | refine Zbn ?_) | refine ret _ _ _ rfl rfl
        all_goals (exfalso; clear ihr ret hcall; simp at *; try omega)
def idxV (P : Val → Bool) : List Val → Nat → Int
  | [], _ => -1
  | v :: r, i => if P v then i else idxV P r (i + 1)
theorem idxV_any (P : Val → Bool) : ∀ (l : List Val) (i : Nat), decide (0 ≤ idxV P l i) = l.any P
  | [], i => by simp [idxV]
  | v :: r, i => by
    unfold idxV
    have := idxV_any P r (i + 1)
    cases h : P v with
    | true => simp [h]
    | false => simp [h, this]
theorem run_may1 (f : Nat) (d : Int) (hd : d + f = 8 ∧ 0 ≤ d) (v : Val) (cs : List PV) (hv : VC v cs) (hm : T.R (.call Z9t [.agg cs, .int .i64 (d + 1)] (.bool (Zr f v)))) :
    T.R (.call Z2z [.agg cs, .iptr [.int .i64 d] 0] (.bool (!Zr f v))) := by
  have hw : IntKind.i64.wrap (d + 1) = d + 1 := by rw [Z06]; omega
  rw [← hw] at hm
  obtain ⟨k, n, s, l⟩ := v
  generalize Zr f _ = r at hm ⊢
  obtain ⟨hk, hn, hs, p, rfl, hp⟩ := hv.open
  have plp := hp.pl
  refine Zo rfl rfl ?_
  repeat' first | refine Z3 rfl ?_ | refine Zl rfl rfl ?_ | ((with_reducible show VO _ _ _ _ _ _ _); first | refine Z9 rfl ?_ | refine Z8 rfl rfl hm ?_ | refine Z0 rfl ?_ | refine Z4 ?_)
  all_goals rfl
def idxP (P : Val → Bool) (l : List Val) : EX → EC → St → Prop := fun x e' st' => st' = emptySt ∧ ((x = .exit 0 ∧ idxV P l 0 = -1) ∨ (x = .ret ∧ e' = .put 4 (.int .i64 (idxV P l 0)) .nil))
theorem idx_loop (P : Val → Bool) (g : Nat) (caps : List PV) (plc : ∀ c ∈ caps, Pl c) (l : List Val) (p : PV) (hp : LC l p)
    (hm : ∀ (j : Nat) (v : Val) (cs : List PV), l[j]? = some v → At 4 p j cs → T.R (.call g (.agg cs :: caps) (.bool (P v)))) :
    ∀ (ra pre : List Val) (e : EC), l = pre ++ ra → idxV P l 0 = idxV P ra pre.length → e.get 0 = some p → e.get 1 = some (.func g caps) → e.get 7 = some (.int .i64 l.length) → e.get 8 = some (.int .i64 pre.length) →
    V T (PE (idxP P l)) [.code (.loop Z0u)] .normal e emptySt := by
  obtain ⟨lp1, lp2, lp3⟩ := hp.len
  intro ra
  induction ra with
  | nil =>
    intro pre e ha hi h0 h1 h7 h8
    have out : ∀ (fr : List Fr) (x : EX) (e' : EC), Zi 200 fr x = ([], .exit 0) → V T (PE (idxP P l)) fr x e' emptySt := fun fr x e' hadv => Z1y hadv ⟨rfl, .inl ⟨rfl, by rw [hi]; rfl⟩⟩
    refine Zj (.put 0 p (.put 1 (.func g caps) (.put 7 _ (.put 8 _ .nil)))) (Z2 h0 (Z2 h1 (Z2 h7 (Z2 h8 Zk)))) (Zn ?_)
    repeat' first | refine Z3 rfl ?_ | refine Z86 rfl rfl (fun _ => ?_) (fun _ => ?_) | refine Z0 rfl ?_ | refine Z4 ?_ | refine out _ _ _ rfl
    all_goals (exfalso; clear out; subst ha; simp at *)
  | cons y ra ihr =>
    intro pre e ha hi h0 h1 h7 h8
    refine Zj (.put 0 p (.put 1 (.func g caps) (.put 7 _ (.put 8 _ .nil)))) (Z2 h0 (Z2 h1 (Z2 h7 (Z2 h8 Zk)))) (Zn ?_)
    have hy : l[pre.length]? = some y := by subst ha; simp
    obtain ⟨cy, ay, vy⟩ := hp.at hy
    have ply := vy.pl
    have hcall := hm _ y cy hy ay
    have hvl : Z1z false emptySt.get ([PV.agg cy] ++ caps) (.agg cy :: caps) := Zdr (Z0k (.agg _ ply) plc)
    cases hyP : P y with
    | false =>
      rw [hyP] at hcall
      have fin : ∀ (fr : List Fr) (x : EX) (e' : EC), Zi 200 fr x = ([.code (.loop Z0u)], .normal) → e'.get 0 = some p → e'.get 1 = some (.func g caps) → e'.get 7 = some (.int .i64 l.length) → e'.get 8 = some (.int .i64 (IntKind.i64.wrap (pre.length + 1))) → V T (PE (idxP P l)) fr x e' emptySt := fun fr x e' hadv g0 g1 g7 g8 => Z38 hadv (by
        have hlt : pre.length < l.length := by subst ha; simp
        have hw : IntKind.i64.wrap (pre.length + 1) = ((pre ++ [y]).length : Int) := by rw [Z06]; simp; omega
        rw [hw] at g8
        exact ihr (pre ++ [y]) e' (by rw [ha]; simp) (by rw [hi]; simp [idxV, hyP]) g0 g1 g7 g8)
      repeat' first | ((with_reducible show V _ _ _ _ _ _); first | refine Z3 rfl ?_ | refine Ze rfl rfl ?_ | refine Z86 rfl rfl (fun _ => ?_) (fun _ => ?_)) | ((with_reducible show VO _ _ _ _ _ _ _); first | refine Zh rfl rfl ay ?_ | refine O_loadA rfl vy.len4 ?_ | refine O_callP rfl rfl hvl hcall ?_ | refine Z0 rfl ?_ | refine Z4 ?_) | refine fin _ _ _ rfl rfl rfl rfl rfl
      all_goals (exfalso; clear fin ihr hcall hm; subst ha; simp at *; try omega)
    | true =>
      rw [hyP] at hcall
      have ret : ∀ (fr : List Fr) (x : EX) (e' : EC), Zi 200 fr x = ([], .ret) → e'.get 4 = some (.int .i64 pre.length) → V T (PE (idxP P l)) fr x e' emptySt := fun fr x e' hadv g0 =>
        Zj (.put 4 _ .nil) (Z2 g0 Zk) (Z1y hadv ⟨rfl, .inr ⟨rfl, by rw [hi]; simp [idxV, hyP]⟩⟩)
      repeat' first | ((with_reducible show V _ _ _ _ _ _); first | refine Z3 rfl ?_ | refine Zb rfl rfl ?_ | refine Z86 rfl rfl (fun _ => ?_) (fun _ => ?_)) | ((with_reducible show VO _ _ _ _ _ _ _); first | refine Zh rfl rfl ay ?_ | refine O_loadA rfl vy.len4 ?_ | refine O_callP rfl rfl hvl hcall ?_ | refine Z0 rfl ?_ | refine Z4 ?_) | refine ret _ _ _ rfl rfl
      all_goals (exfalso; clear ihr ret hcall hm; subst ha; simp at *; try omega)
theorem run_IndexFunc (P : Val → Bool) (g : Nat) (caps : List PV) (plc : ∀ c ∈ caps, Pl c) (l : List Val) (p : PV) (hp : LC l p)
    (hm : ∀ (j : Nat) (v : Val) (cs : List PV), l[j]? = some v → At 4 p j cs → T.R (.call g (.agg cs :: caps) (.bool (P v)))) :
    T.R (.call Z4h [p, .func g caps] (.int .i64 (idxV P l 0))) := by
  obtain ⟨lp1, lp2, lp3⟩ := hp.len
  have hl := fun e h0 h1 h2 h3 => idx_loop P g caps plc l p hp hm l [] e rfl rfl h0 h1 h2 h3
  refine Zo rfl rfl ?_
  repeat' first | refine Z55 rfl (hl _ rfl rfl rfl rfl) ?_ | refine Z3 rfl ?_ | ((with_reducible show VO _ _ _ _ _ _ _); first | refine Z0r rfl lp1 lp2 ?_ | refine Z0 rfl ?_ | refine Z4 ?_)
  rintro x e' st' ⟨rfl, ⟨rfl, h⟩ | ⟨rfl, rfl⟩⟩
  · repeat' first | refine Z3 rfl ?_ | refine Zl rfl rfl ?_ | refine Z0 rfl ?_ | refine Z4 ?_
    rw [h]
  · repeat' first | refine Zl rfl rfl ?_
    rfl
theorem Zd8 (P : Val → Bool) (g : Nat) (caps : List PV) (plc : ∀ c ∈ caps, Pl c) (l : List Val) (p : PV) (hp : LC l p)
    (hm : ∀ (j : Nat) (v : Val) (cs : List PV), l[j]? = some v → At 4 p j cs → T.R (.call g (.agg cs :: caps) (.bool (P v)))) :
    T.R (.call Z1f [p, .func g caps] (.bool (l.any P))) := by
  have h := run_IndexFunc P g caps plc l p hp hm
  have plp := hp.pl
  rw [← idxV_any P l 0]
  generalize idxV P l 0 = r at h ⊢
  refine Zo rfl rfl ?_
  repeat' first | refine Z3 rfl ?_ | refine Zl rfl rfl ?_ | ((with_reducible show VO _ _ _ _ _ _ _); first | refine Z8 rfl rfl h ?_ | refine Z0 rfl ?_ | refine Z4 ?_)
  all_goals rfl
end Go.Proofs.YtgdjnlopdpjnaaaDoor
