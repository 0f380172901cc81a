/- CodecOrder, over plain values. -/
import Derived.Test.YtfdebgebnkbagaaDoorOrdP
import Derived.Test.YtfdebgebnkbagaaDoorCodA
set_option linter.unusedVariables false
set_option linter.unusedSimpArgs false
namespace Go.Proofs.YtfdebgebnkbagaaDoor
open Go Go.AM Go.RowKit

def ordP (p q P Q : PV) (a b : List Val) : EX → EC → St → Prop := fun x e' st' => st' = emptySt ∧ ((x = .exit 0 ∧ e' = .put 0 p (.put 1 q (.put 5 P (.put 7 Q .nil))) ∧ ((∃ t, b = a ++ t) ∨ ∃ t, a = b ++ t)) ∨ (x = .ret ∧ e' = .put 4 (.bool true) .nil))
theorem LC.vc_at {l : List Val} {p : PV} (h : LC l p) {j : Nat} {v : Val} (hv : l[j]? = some v) : I64 v.n := by
  obtain ⟨cs, _, vc⟩ := h.at hv
  obtain ⟨k, n, s, l'⟩ := v
  exact vc.open.2.1
theorem ord_loop (p q P Q : PV) (a b : List Val) (hp : LC a p) (hq : LC b q) (PA QB : List UInt8) (hP : BV P PA) (hQ : BV Q QB) (ha : keyR a = .ok PA) (hb : keyR b = .ok QB) :
    ∀ (ra rb pre : List Val) (e : EC), a = pre ++ ra → b = pre ++ rb → e.get 0 = some p → e.get 1 = some q → e.get 5 = some P → e.get 7 = some Q → e.get 36 = some (.int .i64 (min (a.length : Int) b.length)) → e.get 37 = some (.int .i64 pre.length) →
    V T (PE (ordP p q P Q a b)) [.code (.loop lp_ramblelaw03_CodecOrder_0)] .normal e emptySt := by
  obtain ⟨lp1, lp2, lp3⟩ := hp.len
  obtain ⟨lq1, lq2, lq3⟩ := hq.len
  have hcmp := run_bytesCompare hP hQ
  have plP := hP.pl
  have plQ := hQ.pl
  intro ra
  have out : ∀ (ra rb pre : List Val), a = pre ++ ra → b = pre ++ rb → ra = [] ∨ rb = [] → ∀ (fr : List Fr) (x : EX) (e' : EC), adv 200 fr x = ([], .exit 0) → e'.get 0 = some p → e'.get 1 = some q → e'.get 5 = some P → e'.get 7 = some Q → V T (PE (ordP p q P Q a b)) fr x e' emptySt := fun ra rb pre hla hlb hn fr x e' hadv g0 g1 g5 g7 =>
    V_less (.put 0 p (.put 1 q (.put 5 P (.put 7 Q .nil)))) (less_put g0 (less_put g1 (less_put g5 (less_put g7 less_nil)))) (V_endP hadv ⟨rfl, .inl ⟨rfl, rfl, by
      rcases hn with rfl | rfl
      · exact .inl ⟨rb, by rw [hla, hlb]; simp⟩
      · exact .inr ⟨ra, by rw [hla, hlb]; simp⟩⟩⟩)
  induction ra with
  | nil =>
    intro rb pre e hla hlb h0 h1 h5 h7 h36 h37
    have hlt : decide ((pre.length : Int) < min (a.length : Int) b.length) = false := decide_eq_false (by subst hla; simp; omega)
    refine V_less (.put 0 p (.put 1 q (.put 5 P (.put 7 Q (.put 36 _ (.put 37 _ .nil)))))) (less_put h0 (less_put h1 (less_put h5 (less_put h7 (less_put h36 (less_put h37 less_nil)))))) (V_unroll ?_)
    repeat' first
      | refine V_cH hlt rfl rfl ?_
      | refine out [] rb pre hla hlb (.inl rfl) _ _ _ rfl rfl rfl rfl rfl
      | refine V_O rfl ?_
      | refine O_step rfl ?_
      | refine O_nil' ?_
      | refine V_cT rfl rfl ?_
      | refine V_cF rfl rfl ?_
      | refine V_cEq rfl rfl ?_
      | refine V_cNe rfl rfl ?_
      | refine V_cB rfl rfl (fun _ => ?_) (fun _ => ?_)
      | refine O_gT' rfl ?_
      | refine O_gU' rfl ?_
      | refine O_gF' rfl rfl ?_
      | refine O_gEq rfl ?_
      | refine O_gNe rfl ?_
      | refine O_gS rfl (fun _ => ?_) (fun _ => ?_)
      | refine V_fin rfl rfl (Pl.view (by (repeat' (first | exact Pl.int _ _ | exact Pl.bool _ | exact Pl.str _ | exact Pl.nilSl | exact pl_nil | refine pl_cons ?_ ?_ | refine Pl.tuple _ ?_ | refine Pl.agg _ ?_ | refine Pl.func _ _ ?_ | assumption | refine Pl.iptr _ _ ?_ | exact pll_nil | refine pll_cons ?_ ?_ | refine Pl.sl _ _ ?_)); first | done | fail)) ?_
      | refine V_finN rfl rfl (Pl.view (by (repeat' (first | exact Pl.int _ _ | exact Pl.bool _ | exact Pl.str _ | exact Pl.nilSl | exact pl_nil | refine pl_cons ?_ ?_ | refine Pl.tuple _ ?_ | refine Pl.agg _ ?_ | refine Pl.func _ _ ?_ | assumption | refine Pl.iptr _ _ ?_ | exact pll_nil | refine pll_cons ?_ ?_ | refine Pl.sl _ _ ?_)); first | done | fail)) ?_
      | refine V_D rfl ?_
      | refine D_step rfl ?_
      | refine D_nil' ?_
      | refine D_gT' rfl ?_
      | refine D_gU' rfl ?_
      | refine D_gF' rfl rfl ?_
      | refine D_gS rfl (fun _ => ?_) (fun _ => ?_)
  | cons y ra ih =>
    intro rb pre e hla hlb h0 h1 h5 h7 h36 h37
    cases rb with
    | nil =>
      have hlt : decide ((pre.length : Int) < min (a.length : Int) b.length) = false := decide_eq_false (by subst hlb; simp; omega)
      refine V_less (.put 0 p (.put 1 q (.put 5 P (.put 7 Q (.put 36 _ (.put 37 _ .nil)))))) (less_put h0 (less_put h1 (less_put h5 (less_put h7 (less_put h36 (less_put h37 less_nil)))))) (V_unroll ?_)
      repeat' first
        | refine V_cH hlt rfl rfl ?_
        | refine out (y :: ra) [] pre hla hlb (.inr rfl) _ _ _ rfl rfl rfl rfl rfl
        | refine V_O rfl ?_
        | refine O_step rfl ?_
        | refine O_nil' ?_
        | refine V_cT rfl rfl ?_
        | refine V_cF rfl rfl ?_
        | refine V_cEq rfl rfl ?_
        | refine V_cNe rfl rfl ?_
        | refine V_cB rfl rfl (fun _ => ?_) (fun _ => ?_)
        | refine O_gT' rfl ?_
        | refine O_gU' rfl ?_
        | refine O_gF' rfl rfl ?_
        | refine O_gEq rfl ?_
        | refine O_gNe rfl ?_
        | refine O_gS rfl (fun _ => ?_) (fun _ => ?_)
        | refine V_fin rfl rfl (Pl.view (by (repeat' (first | exact Pl.int _ _ | exact Pl.bool _ | exact Pl.str _ | exact Pl.nilSl | exact pl_nil | refine pl_cons ?_ ?_ | refine Pl.tuple _ ?_ | refine Pl.agg _ ?_ | refine Pl.func _ _ ?_ | assumption | refine Pl.iptr _ _ ?_ | exact pll_nil | refine pll_cons ?_ ?_ | refine Pl.sl _ _ ?_)); first | done | fail)) ?_
        | refine V_finN rfl rfl (Pl.view (by (repeat' (first | exact Pl.int _ _ | exact Pl.bool _ | exact Pl.str _ | exact Pl.nilSl | exact pl_nil | refine pl_cons ?_ ?_ | refine Pl.tuple _ ?_ | refine Pl.agg _ ?_ | refine Pl.func _ _ ?_ | assumption | refine Pl.iptr _ _ ?_ | exact pll_nil | refine pll_cons ?_ ?_ | refine Pl.sl _ _ ?_)); first | done | fail)) ?_
        | refine V_D rfl ?_
        | refine D_step rfl ?_
        | refine D_nil' ?_
        | refine D_gT' rfl ?_
        | refine D_gU' rfl ?_
        | refine D_gF' rfl rfl ?_
        | refine D_gS rfl (fun _ => ?_) (fun _ => ?_)
    | cons z rb =>
      have hlt : decide ((pre.length : Int) < min (a.length : Int) b.length) = true := decide_eq_true (by subst hla hlb; simp; omega)
      have hpl : pre.length + 1 ≤ a.length := by subst hla; simp
      have hy : a[pre.length]? = some y := by subst hla; simp
      have hz : b[pre.length]? = some z := by subst hlb; simp
      obtain ⟨cy, ay, vy⟩ := hp.at hy
      obtain ⟨cz, az, vz⟩ := hq.at hz
      have ply := vy.pl
      have plz := vz.pl
      have hcall := run_Compare2 vy z cz vz
      have fa := keyR_flat ha
      have fb := keyR_flat hb
      have hcm : cmpV y z ≠ 0 → cmpS PA QB = cmpV y z := fun hne => by
        have gy : Good y := fa.2 y (by subst hla; simp)
        have gz : Good z := fb.2 z (by subst hlb; simp)
        rw [fa.1, fb.1, hla, hlb, List.flatMap_append, List.flatMap_append, cmpS_pre, List.flatMap_cons, List.flatMap_cons]
        exact form_cmp gy gz (hp.vc_at hy) (hq.vc_at hz) hne _ _
      have hyz : cmpV y z = 0 → y = z := cmpV_zero.1
      refine V_less (.put 0 p (.put 1 q (.put 5 P (.put 7 Q (.put 36 _ (.put 37 _ .nil)))))) (less_put h0 (less_put h1 (less_put h5 (less_put h7 (less_put h36 (less_put h37 less_nil)))))) (V_unroll ?_)
      generalize cmpV y z = r at hcall hcm hyz
      by_cases hr : r = 0
      · have hyz' := hyz hr
        have hw : IntKind.i64.wrap ((pre.length : Int) + 1) = ((pre ++ [y]).length : Int) := by rw [wrap_i64]; simp; omega
        have fin : ∀ (fr : List Fr) (x : EX) (e' : EC), adv 200 fr x = ([.code (.loop lp_ramblelaw03_CodecOrder_0)], .normal) → e'.get 0 = some p → e'.get 1 = some q → e'.get 5 = some P → e'.get 7 = some Q → e'.get 36 = some (.int .i64 (min (a.length : Int) b.length)) → e'.get 37 = some (.int .i64 (IntKind.i64.wrap ((pre.length : Int) + 1))) → V T (PE (ordP p q P Q a b)) fr x e' emptySt := fun fr x e' hadv g0 g1 g5 g7 g36 g37 => V_adv hadv (by
          rw [hw] at g37
          exact ih rb (pre ++ [y]) e' (by rw [hla]; simp) (by rw [hlb, hyz']; simp) g0 g1 g5 g7 g36 g37)
        subst hr
        clear ih
        repeat' first
          | refine V_cHT hlt rfl rfl ?_
          | refine D_at rfl rfl ay ?_
          | refine D_at rfl rfl az ?_
          | refine D_loadA rfl vy.len4 ?_
          | refine D_loadA rfl vz.len4 ?_
          | refine D_callP rfl rfl (viewL_pl (by (repeat' (first | exact Pl.int _ _ | exact Pl.bool _ | exact Pl.str _ | exact Pl.nilSl | exact pl_nil | refine pl_cons ?_ ?_ | refine Pl.tuple _ ?_ | refine Pl.agg _ ?_ | refine Pl.func _ _ ?_ | assumption | refine Pl.iptr _ _ ?_ | exact pll_nil | refine pll_cons ?_ ?_ | refine Pl.sl _ _ ?_)); first | done | fail)) hcall ?_
          | refine fin _ _ _ rfl rfl rfl rfl rfl rfl rfl
          | refine V_O rfl ?_
          | refine O_step rfl ?_
          | refine O_nil' ?_
          | refine V_cT rfl rfl ?_
          | refine V_cF rfl rfl ?_
          | refine V_cEq rfl rfl ?_
          | refine V_cNe rfl rfl ?_
          | refine V_cB rfl rfl (fun _ => ?_) (fun _ => ?_)
          | refine O_gT' rfl ?_
          | refine O_gU' rfl ?_
          | refine O_gF' rfl rfl ?_
          | refine O_gEq rfl ?_
          | refine O_gNe rfl ?_
          | refine O_gS rfl (fun _ => ?_) (fun _ => ?_)
          | refine V_fin rfl rfl (Pl.view (by (repeat' (first | exact Pl.int _ _ | exact Pl.bool _ | exact Pl.str _ | exact Pl.nilSl | exact pl_nil | refine pl_cons ?_ ?_ | refine Pl.tuple _ ?_ | refine Pl.agg _ ?_ | refine Pl.func _ _ ?_ | assumption | refine Pl.iptr _ _ ?_ | exact pll_nil | refine pll_cons ?_ ?_ | refine Pl.sl _ _ ?_)); first | done | fail)) ?_
          | refine V_finN rfl rfl (Pl.view (by (repeat' (first | exact Pl.int _ _ | exact Pl.bool _ | exact Pl.str _ | exact Pl.nilSl | exact pl_nil | refine pl_cons ?_ ?_ | refine Pl.tuple _ ?_ | refine Pl.agg _ ?_ | refine Pl.func _ _ ?_ | assumption | refine Pl.iptr _ _ ?_ | exact pll_nil | refine pll_cons ?_ ?_ | refine Pl.sl _ _ ?_)); first | done | fail)) ?_
          | refine V_D rfl ?_
          | refine D_step rfl ?_
          | refine D_nil' ?_
          | refine D_gT' rfl ?_
          | refine D_gU' rfl ?_
          | refine D_gF' rfl rfl ?_
          | refine D_gS rfl (fun _ => ?_) (fun _ => ?_)
      · have hc := hcm hr
        have hne : (!decide (r = 0)) = true := by simp [hr]
        have he : decide (cmpS PA QB = r) = true := decide_eq_true hc
        have ret : ∀ (fr : List Fr) (x : EX) (e' : EC), adv 200 fr x = ([], .ret) → e'.get 4 = some (.bool (decide (cmpS PA QB = r))) → V T (PE (ordP p q P Q a b)) fr x e' emptySt := fun fr x e' hadv g4 =>
          V_less (.put 4 _ .nil) (less_put (by rw [he] at g4; exact g4) less_nil) (V_endP hadv ⟨rfl, .inr ⟨rfl, rfl⟩⟩)
        clear ih
        repeat' first
          | refine V_cHT hlt rfl rfl ?_
          | refine V_cHT hne rfl rfl ?_
          | refine D_at rfl rfl ay ?_
          | refine D_at rfl rfl az ?_
          | refine D_loadA rfl vy.len4 ?_
          | refine D_loadA rfl vz.len4 ?_
          | refine D_callP rfl rfl (viewL_pl (by (repeat' (first | exact Pl.int _ _ | exact Pl.bool _ | exact Pl.str _ | exact Pl.nilSl | exact pl_nil | refine pl_cons ?_ ?_ | refine Pl.tuple _ ?_ | refine Pl.agg _ ?_ | refine Pl.func _ _ ?_ | assumption | refine Pl.iptr _ _ ?_ | exact pll_nil | refine pll_cons ?_ ?_ | refine Pl.sl _ _ ?_)); first | done | fail)) hcall ?_
          | refine O_callP rfl rfl (viewL_pl (by (repeat' (first | exact Pl.int _ _ | exact Pl.bool _ | exact Pl.str _ | exact Pl.nilSl | exact pl_nil | refine pl_cons ?_ ?_ | refine Pl.tuple _ ?_ | refine Pl.agg _ ?_ | refine Pl.func _ _ ?_ | assumption | refine Pl.iptr _ _ ?_ | exact pll_nil | refine pll_cons ?_ ?_ | refine Pl.sl _ _ ?_)); first | done | fail)) hcmp ?_
          | refine ret _ _ _ rfl rfl
          | refine V_O rfl ?_
          | refine O_step rfl ?_
          | refine O_nil' ?_
          | refine V_cT rfl rfl ?_
          | refine V_cF rfl rfl ?_
          | refine V_cEq rfl rfl ?_
          | refine V_cNe rfl rfl ?_
          | refine V_cB rfl rfl (fun _ => ?_) (fun _ => ?_)
          | refine O_gT' rfl ?_
          | refine O_gU' rfl ?_
          | refine O_gF' rfl rfl ?_
          | refine O_gEq rfl ?_
          | refine O_gNe rfl ?_
          | refine O_gS rfl (fun _ => ?_) (fun _ => ?_)
          | refine V_fin rfl rfl (Pl.view (by (repeat' (first | exact Pl.int _ _ | exact Pl.bool _ | exact Pl.str _ | exact Pl.nilSl | exact pl_nil | refine pl_cons ?_ ?_ | refine Pl.tuple _ ?_ | refine Pl.agg _ ?_ | refine Pl.func _ _ ?_ | assumption | refine Pl.iptr _ _ ?_ | exact pll_nil | refine pll_cons ?_ ?_ | refine Pl.sl _ _ ?_)); first | done | fail)) ?_
          | refine V_finN rfl rfl (Pl.view (by (repeat' (first | exact Pl.int _ _ | exact Pl.bool _ | exact Pl.str _ | exact Pl.nilSl | exact pl_nil | refine pl_cons ?_ ?_ | refine Pl.tuple _ ?_ | refine Pl.agg _ ?_ | refine Pl.func _ _ ?_ | assumption | refine Pl.iptr _ _ ?_ | exact pll_nil | refine pll_cons ?_ ?_ | refine Pl.sl _ _ ?_)); first | done | fail)) ?_
          | refine V_D rfl ?_
          | refine D_step rfl ?_
          | refine D_nil' ?_
          | refine D_gT' rfl ?_
          | refine D_gU' rfl ?_
          | refine D_gF' rfl rfl ?_
          | refine D_gS rfl (fun _ => ?_) (fun _ => ?_)
theorem flat_len (l : List Val) : l.length ≤ (l.flatMap formV).length := by
  induction l with
  | nil => simp
  | cons v l ih =>
    have : (formV v).length ≠ 0 := fun e => form_ne v (List.length_eq_zero_iff.1 e)
    rw [List.flatMap_cons, List.length_append, List.length_cons]
    omega
theorem keyR_err : ∀ {l : List Val} {e : Int}, keyR l = .error e → e = 20 ∨ e = 21
  | [], e, h => by cases h
  | v :: l, e, h => by
    unfold keyR at h
    split at h
    · split at h
      · injection h with h; exact .inr h.symm
      · cases hr : keyR l with
        | error e' => rw [hr] at h; injection h with h; subst h; exact keyR_err hr
        | ok P => rw [hr] at h; cases h
    · injection h with h; exact .inl h.symm
set_option maxHeartbeats 4000000 in
theorem law_CodecOrder {p q : PV} {a b : List Val} (hp : LC a p) (hq : LC b q) (hla : a.length ≤ 1048576) (hlb : b.length ≤ 1048576) : T.R (.call n_ramblelaw03_CodecOrder [p, q] (.bool true)) := by
  obtain ⟨lp1, lp2, lp3⟩ := hp.len
  obtain ⟨lq1, lq2, lq3⟩ := hq.len
  have plp := hp.pl
  have plq := hq.pl
  have hbeg := run_begun
  obtain ⟨P, hP, hkp⟩ := run_Key a p hp hla
  obtain ⟨Q, hQ, hkq⟩ := run_Key b q hq hlb
  have plP := hP.pl
  have plQ := hQ.pl
  cases ha : keyR a with
  | error ea =>
    have hE : keyE a = ea := by simp [keyE, ha]
    rw [hE] at hkp
    generalize keyE b = eb at hkq
    rcases keyR_err ha with rfl | rfl
    · refine call_V rfl rfl ?_
      repeat' first
        | refine O_callP rfl rfl (viewL_pl (by (repeat' (first | exact Pl.int _ _ | exact Pl.bool _ | exact Pl.str _ | exact Pl.nilSl | exact pl_nil | refine pl_cons ?_ ?_ | refine Pl.tuple _ ?_ | refine Pl.agg _ ?_ | refine Pl.func _ _ ?_ | assumption | refine Pl.iptr _ _ ?_ | exact pll_nil | refine pll_cons ?_ ?_ | refine Pl.sl _ _ ?_)); first | done | fail)) hkp ?_
        | refine O_callP rfl rfl (viewL_pl (by (repeat' (first | exact Pl.int _ _ | exact Pl.bool _ | exact Pl.str _ | exact Pl.nilSl | exact pl_nil | refine pl_cons ?_ ?_ | refine Pl.tuple _ ?_ | refine Pl.agg _ ?_ | refine Pl.func _ _ ?_ | assumption | refine Pl.iptr _ _ ?_ | exact pll_nil | refine pll_cons ?_ ?_ | refine Pl.sl _ _ ?_)); first | done | fail)) hkq ?_
        | refine O_callP rfl rfl (viewL_pl (by (repeat' (first | exact Pl.int _ _ | exact Pl.bool _ | exact Pl.str _ | exact Pl.nilSl | exact pl_nil | refine pl_cons ?_ ?_ | refine Pl.tuple _ ?_ | refine Pl.agg _ ?_ | refine Pl.func _ _ ?_ | assumption | refine Pl.iptr _ _ ?_ | exact pll_nil | refine pll_cons ?_ ?_ | refine Pl.sl _ _ ?_)); first | done | fail)) hbeg ?_
        | refine O_lenO rfl lp1 lp2 ?_
        | refine O_lenO rfl lq1 lq2 ?_
        | refine V_O rfl ?_
        | refine O_step rfl ?_
        | refine O_nil' ?_
        | refine V_cT rfl rfl ?_
        | refine V_cF rfl rfl ?_
        | refine V_cEq rfl rfl ?_
        | refine V_cNe rfl rfl ?_
        | refine V_cB rfl rfl (fun _ => ?_) (fun _ => ?_)
        | refine O_gT' rfl ?_
        | refine O_gU' rfl ?_
        | refine O_gF' rfl rfl ?_
        | refine O_gEq rfl ?_
        | refine O_gNe rfl ?_
        | refine O_gS rfl (fun _ => ?_) (fun _ => ?_)
        | refine V_fin rfl rfl (Pl.view (by (repeat' (first | exact Pl.int _ _ | exact Pl.bool _ | exact Pl.str _ | exact Pl.nilSl | exact pl_nil | refine pl_cons ?_ ?_ | refine Pl.tuple _ ?_ | refine Pl.agg _ ?_ | refine Pl.func _ _ ?_ | assumption | refine Pl.iptr _ _ ?_ | exact pll_nil | refine pll_cons ?_ ?_ | refine Pl.sl _ _ ?_)); first | done | fail)) ?_
        | refine V_finN rfl rfl (Pl.view (by (repeat' (first | exact Pl.int _ _ | exact Pl.bool _ | exact Pl.str _ | exact Pl.nilSl | exact pl_nil | refine pl_cons ?_ ?_ | refine Pl.tuple _ ?_ | refine Pl.agg _ ?_ | refine Pl.func _ _ ?_ | assumption | refine Pl.iptr _ _ ?_ | exact pll_nil | refine pll_cons ?_ ?_ | refine Pl.sl _ _ ?_)); first | done | fail)) ?_
        | refine V_D rfl ?_
        | refine D_step rfl ?_
        | refine D_nil' ?_
        | refine D_gT' rfl ?_
        | refine D_gU' rfl ?_
        | refine D_gF' rfl rfl ?_
        | refine D_gS rfl (fun _ => ?_) (fun _ => ?_)
      all_goals rfl
    · refine call_V rfl rfl ?_
      repeat' first
        | refine O_callP rfl rfl (viewL_pl (by (repeat' (first | exact Pl.int _ _ | exact Pl.bool _ | exact Pl.str _ | exact Pl.nilSl | exact pl_nil | refine pl_cons ?_ ?_ | refine Pl.tuple _ ?_ | refine Pl.agg _ ?_ | refine Pl.func _ _ ?_ | assumption | refine Pl.iptr _ _ ?_ | exact pll_nil | refine pll_cons ?_ ?_ | refine Pl.sl _ _ ?_)); first | done | fail)) hkp ?_
        | refine O_callP rfl rfl (viewL_pl (by (repeat' (first | exact Pl.int _ _ | exact Pl.bool _ | exact Pl.str _ | exact Pl.nilSl | exact pl_nil | refine pl_cons ?_ ?_ | refine Pl.tuple _ ?_ | refine Pl.agg _ ?_ | refine Pl.func _ _ ?_ | assumption | refine Pl.iptr _ _ ?_ | exact pll_nil | refine pll_cons ?_ ?_ | refine Pl.sl _ _ ?_)); first | done | fail)) hkq ?_
        | refine O_callP rfl rfl (viewL_pl (by (repeat' (first | exact Pl.int _ _ | exact Pl.bool _ | exact Pl.str _ | exact Pl.nilSl | exact pl_nil | refine pl_cons ?_ ?_ | refine Pl.tuple _ ?_ | refine Pl.agg _ ?_ | refine Pl.func _ _ ?_ | assumption | refine Pl.iptr _ _ ?_ | exact pll_nil | refine pll_cons ?_ ?_ | refine Pl.sl _ _ ?_)); first | done | fail)) hbeg ?_
        | refine O_lenO rfl lp1 lp2 ?_
        | refine O_lenO rfl lq1 lq2 ?_
        | refine V_O rfl ?_
        | refine O_step rfl ?_
        | refine O_nil' ?_
        | refine V_cT rfl rfl ?_
        | refine V_cF rfl rfl ?_
        | refine V_cEq rfl rfl ?_
        | refine V_cNe rfl rfl ?_
        | refine V_cB rfl rfl (fun _ => ?_) (fun _ => ?_)
        | refine O_gT' rfl ?_
        | refine O_gU' rfl ?_
        | refine O_gF' rfl rfl ?_
        | refine O_gEq rfl ?_
        | refine O_gNe rfl ?_
        | refine O_gS rfl (fun _ => ?_) (fun _ => ?_)
        | refine V_fin rfl rfl (Pl.view (by (repeat' (first | exact Pl.int _ _ | exact Pl.bool _ | exact Pl.str _ | exact Pl.nilSl | exact pl_nil | refine pl_cons ?_ ?_ | refine Pl.tuple _ ?_ | refine Pl.agg _ ?_ | refine Pl.func _ _ ?_ | assumption | refine Pl.iptr _ _ ?_ | exact pll_nil | refine pll_cons ?_ ?_ | refine Pl.sl _ _ ?_)); first | done | fail)) ?_
        | refine V_finN rfl rfl (Pl.view (by (repeat' (first | exact Pl.int _ _ | exact Pl.bool _ | exact Pl.str _ | exact Pl.nilSl | exact pl_nil | refine pl_cons ?_ ?_ | refine Pl.tuple _ ?_ | refine Pl.agg _ ?_ | refine Pl.func _ _ ?_ | assumption | refine Pl.iptr _ _ ?_ | exact pll_nil | refine pll_cons ?_ ?_ | refine Pl.sl _ _ ?_)); first | done | fail)) ?_
        | refine V_D rfl ?_
        | refine D_step rfl ?_
        | refine D_nil' ?_
        | refine D_gT' rfl ?_
        | refine D_gU' rfl ?_
        | refine D_gF' rfl rfl ?_
        | refine D_gS rfl (fun _ => ?_) (fun _ => ?_)
      all_goals rfl
  | ok PA =>
    have hEa : keyE a = 0 := by simp [keyE, ha]
    rw [hEa] at hkp
    cases hb : keyR b with
    | error eb =>
      have hE : keyE b = eb := by simp [keyE, hb]
      rw [hE] at hkq
      rcases keyR_err hb with rfl | rfl
      · refine call_V rfl rfl ?_
        repeat' first
          | refine O_callP rfl rfl (viewL_pl (by (repeat' (first | exact Pl.int _ _ | exact Pl.bool _ | exact Pl.str _ | exact Pl.nilSl | exact pl_nil | refine pl_cons ?_ ?_ | refine Pl.tuple _ ?_ | refine Pl.agg _ ?_ | refine Pl.func _ _ ?_ | assumption | refine Pl.iptr _ _ ?_ | exact pll_nil | refine pll_cons ?_ ?_ | refine Pl.sl _ _ ?_)); first | done | fail)) hkp ?_
          | refine O_callP rfl rfl (viewL_pl (by (repeat' (first | exact Pl.int _ _ | exact Pl.bool _ | exact Pl.str _ | exact Pl.nilSl | exact pl_nil | refine pl_cons ?_ ?_ | refine Pl.tuple _ ?_ | refine Pl.agg _ ?_ | refine Pl.func _ _ ?_ | assumption | refine Pl.iptr _ _ ?_ | exact pll_nil | refine pll_cons ?_ ?_ | refine Pl.sl _ _ ?_)); first | done | fail)) hkq ?_
          | refine O_callP rfl rfl (viewL_pl (by (repeat' (first | exact Pl.int _ _ | exact Pl.bool _ | exact Pl.str _ | exact Pl.nilSl | exact pl_nil | refine pl_cons ?_ ?_ | refine Pl.tuple _ ?_ | refine Pl.agg _ ?_ | refine Pl.func _ _ ?_ | assumption | refine Pl.iptr _ _ ?_ | exact pll_nil | refine pll_cons ?_ ?_ | refine Pl.sl _ _ ?_)); first | done | fail)) hbeg ?_
          | refine O_lenO rfl lp1 lp2 ?_
          | refine O_lenO rfl lq1 lq2 ?_
          | refine V_O rfl ?_
          | refine O_step rfl ?_
          | refine O_nil' ?_
          | refine V_cT rfl rfl ?_
          | refine V_cF rfl rfl ?_
          | refine V_cEq rfl rfl ?_
          | refine V_cNe rfl rfl ?_
          | refine V_cB rfl rfl (fun _ => ?_) (fun _ => ?_)
          | refine O_gT' rfl ?_
          | refine O_gU' rfl ?_
          | refine O_gF' rfl rfl ?_
          | refine O_gEq rfl ?_
          | refine O_gNe rfl ?_
          | refine O_gS rfl (fun _ => ?_) (fun _ => ?_)
          | refine V_fin rfl rfl (Pl.view (by (repeat' (first | exact Pl.int _ _ | exact Pl.bool _ | exact Pl.str _ | exact Pl.nilSl | exact pl_nil | refine pl_cons ?_ ?_ | refine Pl.tuple _ ?_ | refine Pl.agg _ ?_ | refine Pl.func _ _ ?_ | assumption | refine Pl.iptr _ _ ?_ | exact pll_nil | refine pll_cons ?_ ?_ | refine Pl.sl _ _ ?_)); first | done | fail)) ?_
          | refine V_finN rfl rfl (Pl.view (by (repeat' (first | exact Pl.int _ _ | exact Pl.bool _ | exact Pl.str _ | exact Pl.nilSl | exact pl_nil | refine pl_cons ?_ ?_ | refine Pl.tuple _ ?_ | refine Pl.agg _ ?_ | refine Pl.func _ _ ?_ | assumption | refine Pl.iptr _ _ ?_ | exact pll_nil | refine pll_cons ?_ ?_ | refine Pl.sl _ _ ?_)); first | done | fail)) ?_
          | refine V_D rfl ?_
          | refine D_step rfl ?_
          | refine D_nil' ?_
          | refine D_gT' rfl ?_
          | refine D_gU' rfl ?_
          | refine D_gF' rfl rfl ?_
          | refine D_gS rfl (fun _ => ?_) (fun _ => ?_)
        all_goals rfl
      · refine call_V rfl rfl ?_
        repeat' first
          | refine O_callP rfl rfl (viewL_pl (by (repeat' (first | exact Pl.int _ _ | exact Pl.bool _ | exact Pl.str _ | exact Pl.nilSl | exact pl_nil | refine pl_cons ?_ ?_ | refine Pl.tuple _ ?_ | refine Pl.agg _ ?_ | refine Pl.func _ _ ?_ | assumption | refine Pl.iptr _ _ ?_ | exact pll_nil | refine pll_cons ?_ ?_ | refine Pl.sl _ _ ?_)); first | done | fail)) hkp ?_
          | refine O_callP rfl rfl (viewL_pl (by (repeat' (first | exact Pl.int _ _ | exact Pl.bool _ | exact Pl.str _ | exact Pl.nilSl | exact pl_nil | refine pl_cons ?_ ?_ | refine Pl.tuple _ ?_ | refine Pl.agg _ ?_ | refine Pl.func _ _ ?_ | assumption | refine Pl.iptr _ _ ?_ | exact pll_nil | refine pll_cons ?_ ?_ | refine Pl.sl _ _ ?_)); first | done | fail)) hkq ?_
          | refine O_callP rfl rfl (viewL_pl (by (repeat' (first | exact Pl.int _ _ | exact Pl.bool _ | exact Pl.str _ | exact Pl.nilSl | exact pl_nil | refine pl_cons ?_ ?_ | refine Pl.tuple _ ?_ | refine Pl.agg _ ?_ | refine Pl.func _ _ ?_ | assumption | refine Pl.iptr _ _ ?_ | exact pll_nil | refine pll_cons ?_ ?_ | refine Pl.sl _ _ ?_)); first | done | fail)) hbeg ?_
          | refine O_lenO rfl lp1 lp2 ?_
          | refine O_lenO rfl lq1 lq2 ?_
          | refine V_O rfl ?_
          | refine O_step rfl ?_
          | refine O_nil' ?_
          | refine V_cT rfl rfl ?_
          | refine V_cF rfl rfl ?_
          | refine V_cEq rfl rfl ?_
          | refine V_cNe rfl rfl ?_
          | refine V_cB rfl rfl (fun _ => ?_) (fun _ => ?_)
          | refine O_gT' rfl ?_
          | refine O_gU' rfl ?_
          | refine O_gF' rfl rfl ?_
          | refine O_gEq rfl ?_
          | refine O_gNe rfl ?_
          | refine O_gS rfl (fun _ => ?_) (fun _ => ?_)
          | refine V_fin rfl rfl (Pl.view (by (repeat' (first | exact Pl.int _ _ | exact Pl.bool _ | exact Pl.str _ | exact Pl.nilSl | exact pl_nil | refine pl_cons ?_ ?_ | refine Pl.tuple _ ?_ | refine Pl.agg _ ?_ | refine Pl.func _ _ ?_ | assumption | refine Pl.iptr _ _ ?_ | exact pll_nil | refine pll_cons ?_ ?_ | refine Pl.sl _ _ ?_)); first | done | fail)) ?_
          | refine V_finN rfl rfl (Pl.view (by (repeat' (first | exact Pl.int _ _ | exact Pl.bool _ | exact Pl.str _ | exact Pl.nilSl | exact pl_nil | refine pl_cons ?_ ?_ | refine Pl.tuple _ ?_ | refine Pl.agg _ ?_ | refine Pl.func _ _ ?_ | assumption | refine Pl.iptr _ _ ?_ | exact pll_nil | refine pll_cons ?_ ?_ | refine Pl.sl _ _ ?_)); first | done | fail)) ?_
          | refine V_D rfl ?_
          | refine D_step rfl ?_
          | refine D_nil' ?_
          | refine D_gT' rfl ?_
          | refine D_gU' rfl ?_
          | refine D_gF' rfl rfl ?_
          | refine D_gS rfl (fun _ => ?_) (fun _ => ?_)
        all_goals rfl
    | ok QB =>
      have hPA : keyB a = PA := by simp [keyB, ha]
      have hQB : keyB b = QB := by simp [keyB, hb]
      have hEb : keyE b = 0 := by simp [keyE, hb]
      rw [hPA] at hP
      rw [hQB] at hQ
      rw [hEb] at hkq
      have fa := (keyR_flat ha).1
      have fb := (keyR_flat hb).1
      have h1 := run_HasPrefix hQ hP
      have h2 := run_HasPrefix hP hQ
      have hmin : (if false = true then (if (b.length : Int) > a.length then (b.length : Int) else a.length) else if (b.length : Int) < a.length then (b.length : Int) else a.length) = min (a.length : Int) b.length := by
        rw [if_neg (by simp)]; split <;> omega
      have hloop := fun e h0 h1 h5 h7 h36 h37 => ord_loop p q P Q a b hp hq PA QB hP hQ ha hb a b [] e rfl rfl h0 h1 h5 h7 h36 h37
      refine call_V rfl rfl ?_
      repeat' first
        | refine O_callP rfl rfl (viewL_pl (by (repeat' (first | exact Pl.int _ _ | exact Pl.bool _ | exact Pl.str _ | exact Pl.nilSl | exact pl_nil | refine pl_cons ?_ ?_ | refine Pl.tuple _ ?_ | refine Pl.agg _ ?_ | refine Pl.func _ _ ?_ | assumption | refine Pl.iptr _ _ ?_ | exact pll_nil | refine pll_cons ?_ ?_ | refine Pl.sl _ _ ?_)); first | done | fail)) hkp ?_
        | refine O_callP rfl rfl (viewL_pl (by (repeat' (first | exact Pl.int _ _ | exact Pl.bool _ | exact Pl.str _ | exact Pl.nilSl | exact pl_nil | refine pl_cons ?_ ?_ | refine Pl.tuple _ ?_ | refine Pl.agg _ ?_ | refine Pl.func _ _ ?_ | assumption | refine Pl.iptr _ _ ?_ | exact pll_nil | refine pll_cons ?_ ?_ | refine Pl.sl _ _ ?_)); first | done | fail)) hkq ?_
        | refine O_callP rfl rfl (viewL_pl (by (repeat' (first | exact Pl.int _ _ | exact Pl.bool _ | exact Pl.str _ | exact Pl.nilSl | exact pl_nil | refine pl_cons ?_ ?_ | refine Pl.tuple _ ?_ | refine Pl.agg _ ?_ | refine Pl.func _ _ ?_ | assumption | refine Pl.iptr _ _ ?_ | exact pll_nil | refine pll_cons ?_ ?_ | refine Pl.sl _ _ ?_)); first | done | fail)) hbeg ?_
        | refine O_lenO rfl lp1 lp2 ?_
        | refine O_lenO rfl lq1 lq2 ?_
        | refine V_cutA rfl (hloop _ rfl rfl rfl rfl (congrArg (fun n => some (PV.int IntKind.i64 n)) hmin) rfl) ?_
        | refine V_O rfl ?_
        | refine O_step rfl ?_
        | refine O_nil' ?_
        | refine V_cT rfl rfl ?_
        | refine V_cF rfl rfl ?_
        | refine V_cEq rfl rfl ?_
        | refine V_cNe rfl rfl ?_
        | refine V_cB rfl rfl (fun _ => ?_) (fun _ => ?_)
        | refine O_gT' rfl ?_
        | refine O_gU' rfl ?_
        | refine O_gF' rfl rfl ?_
        | refine O_gEq rfl ?_
        | refine O_gNe rfl ?_
        | refine O_gS rfl (fun _ => ?_) (fun _ => ?_)
        | refine V_fin rfl rfl (Pl.view (by (repeat' (first | exact Pl.int _ _ | exact Pl.bool _ | exact Pl.str _ | exact Pl.nilSl | exact pl_nil | refine pl_cons ?_ ?_ | refine Pl.tuple _ ?_ | refine Pl.agg _ ?_ | refine Pl.func _ _ ?_ | assumption | refine Pl.iptr _ _ ?_ | exact pll_nil | refine pll_cons ?_ ?_ | refine Pl.sl _ _ ?_)); first | done | fail)) ?_
        | refine V_finN rfl rfl (Pl.view (by (repeat' (first | exact Pl.int _ _ | exact Pl.bool _ | exact Pl.str _ | exact Pl.nilSl | exact pl_nil | refine pl_cons ?_ ?_ | refine Pl.tuple _ ?_ | refine Pl.agg _ ?_ | refine Pl.func _ _ ?_ | assumption | refine Pl.iptr _ _ ?_ | exact pll_nil | refine pll_cons ?_ ?_ | refine Pl.sl _ _ ?_)); first | done | fail)) ?_
        | refine V_D rfl ?_
        | refine D_step rfl ?_
        | refine D_nil' ?_
        | refine D_gT' rfl ?_
        | refine D_gU' rfl ?_
        | refine D_gF' rfl rfl ?_
        | refine D_gS rfl (fun _ => ?_) (fun _ => ?_)
      rintro x e' st' ⟨rfl, ⟨rfl, rfl, hpf⟩ | ⟨rfl, rfl⟩⟩
      · have hp1 : (a.length : Int) ≤ b.length → decide (PA <+: QB) = true := fun hle => decide_eq_true (by
          rcases hpf with ⟨t, ht⟩ | ⟨t, ht⟩
          · rw [fa, fb, ht, List.flatMap_append]; exact List.prefix_append _ _
          · have : t = [] := List.length_eq_zero_iff.1 (by rw [ht] at hle; simp at hle; omega)
            subst this
            rw [fa, fb, ht]; simp)
        have hp2 : (b.length : Int) ≤ a.length → decide (QB <+: PA) = true := fun hle => decide_eq_true (by
          rcases hpf with ⟨t, ht⟩ | ⟨t, ht⟩
          · have : t = [] := List.length_eq_zero_iff.1 (by rw [ht] at hle; simp at hle; omega)
            subst this
            rw [fa, fb, ht]; simp
          · rw [fa, fb, ht, List.flatMap_append]; exact List.prefix_append _ _)
        have hfin : ((decide ((PA.length : Int) < QB.length)) == (decide ((a.length : Int) < b.length))) = true := by
          rcases hpf with ⟨t, ht⟩ | ⟨t, ht⟩
          · have hl := flat_len t
            have e1 : QB.length = PA.length + (t.flatMap formV).length := by rw [fa, fb, ht]; simp
            have e2 : b.length = a.length + t.length := by rw [ht]; simp
            by_cases h0 : t = []
            · subst h0; simp at e1 e2; rw [e1, e2]; simp
            · have : t.length ≠ 0 := fun e => h0 (List.length_eq_zero_iff.1 e)
              rw [decide_eq_true (by omega), decide_eq_true (by omega)]; rfl
          · have hl := flat_len t
            have e1 : PA.length = QB.length + (t.flatMap formV).length := by rw [fa, fb, ht]; simp
            have e2 : a.length = b.length + t.length := by rw [ht]; simp
            rw [decide_eq_false (by omega), decide_eq_false (by omega)]; rfl
        generalize decide (PA <+: QB) = B1 at h1 hp1
        generalize decide (QB <+: PA) = B2 at h2 hp2
        repeat' first
          | refine O_callP rfl rfl (viewL_pl (by (repeat' (first | exact Pl.int _ _ | exact Pl.bool _ | exact Pl.str _ | exact Pl.nilSl | exact pl_nil | refine pl_cons ?_ ?_ | refine Pl.tuple _ ?_ | refine Pl.agg _ ?_ | refine Pl.func _ _ ?_ | assumption | refine Pl.iptr _ _ ?_ | exact pll_nil | refine pll_cons ?_ ?_ | refine Pl.sl _ _ ?_)); first | done | fail)) hkp ?_
          | refine O_callP rfl rfl (viewL_pl (by (repeat' (first | exact Pl.int _ _ | exact Pl.bool _ | exact Pl.str _ | exact Pl.nilSl | exact pl_nil | refine pl_cons ?_ ?_ | refine Pl.tuple _ ?_ | refine Pl.agg _ ?_ | refine Pl.func _ _ ?_ | assumption | refine Pl.iptr _ _ ?_ | exact pll_nil | refine pll_cons ?_ ?_ | refine Pl.sl _ _ ?_)); first | done | fail)) hkq ?_
          | refine O_callP rfl rfl (viewL_pl (by (repeat' (first | exact Pl.int _ _ | exact Pl.bool _ | exact Pl.str _ | exact Pl.nilSl | exact pl_nil | refine pl_cons ?_ ?_ | refine Pl.tuple _ ?_ | refine Pl.agg _ ?_ | refine Pl.func _ _ ?_ | assumption | refine Pl.iptr _ _ ?_ | exact pll_nil | refine pll_cons ?_ ?_ | refine Pl.sl _ _ ?_)); first | done | fail)) hbeg ?_
          | refine O_lenO rfl lp1 lp2 ?_
          | refine O_lenO rfl lq1 lq2 ?_
          | refine O_callP rfl rfl (viewL_pl (by (repeat' (first | exact Pl.int _ _ | exact Pl.bool _ | exact Pl.str _ | exact Pl.nilSl | exact pl_nil | refine pl_cons ?_ ?_ | refine Pl.tuple _ ?_ | refine Pl.agg _ ?_ | refine Pl.func _ _ ?_ | assumption | refine Pl.iptr _ _ ?_ | exact pll_nil | refine pll_cons ?_ ?_ | refine Pl.sl _ _ ?_)); first | done | fail)) h1 ?_
          | refine O_callP rfl rfl (viewL_pl (by (repeat' (first | exact Pl.int _ _ | exact Pl.bool _ | exact Pl.str _ | exact Pl.nilSl | exact pl_nil | refine pl_cons ?_ ?_ | refine Pl.tuple _ ?_ | refine Pl.agg _ ?_ | refine Pl.func _ _ ?_ | assumption | refine Pl.iptr _ _ ?_ | exact pll_nil | refine pll_cons ?_ ?_ | refine Pl.sl _ _ ?_)); first | done | fail)) h2 ?_
          | refine O_lenB rfl hP ?_
          | refine O_lenB rfl hQ ?_
          | refine V_O rfl ?_
          | refine O_step rfl ?_
          | refine O_nil' ?_
          | refine V_cT rfl rfl ?_
          | refine V_cF rfl rfl ?_
          | refine V_cEq rfl rfl ?_
          | refine V_cNe rfl rfl ?_
          | refine V_cB rfl rfl (fun _ => ?_) (fun _ => ?_)
          | refine O_gT' rfl ?_
          | refine O_gU' rfl ?_
          | refine O_gF' rfl rfl ?_
          | refine O_gEq rfl ?_
          | refine O_gNe rfl ?_
          | refine O_gS rfl (fun _ => ?_) (fun _ => ?_)
          | refine V_fin rfl rfl (Pl.view (by (repeat' (first | exact Pl.int _ _ | exact Pl.bool _ | exact Pl.str _ | exact Pl.nilSl | exact pl_nil | refine pl_cons ?_ ?_ | refine Pl.tuple _ ?_ | refine Pl.agg _ ?_ | refine Pl.func _ _ ?_ | assumption | refine Pl.iptr _ _ ?_ | exact pll_nil | refine pll_cons ?_ ?_ | refine Pl.sl _ _ ?_)); first | done | fail)) ?_
          | refine V_finN rfl rfl (Pl.view (by (repeat' (first | exact Pl.int _ _ | exact Pl.bool _ | exact Pl.str _ | exact Pl.nilSl | exact pl_nil | refine pl_cons ?_ ?_ | refine Pl.tuple _ ?_ | refine Pl.agg _ ?_ | refine Pl.func _ _ ?_ | assumption | refine Pl.iptr _ _ ?_ | exact pll_nil | refine pll_cons ?_ ?_ | refine Pl.sl _ _ ?_)); first | done | fail)) ?_
          | refine V_D rfl ?_
          | refine D_step rfl ?_
          | refine D_nil' ?_
          | refine D_gT' rfl ?_
          | refine D_gU' rfl ?_
          | refine D_gF' rfl rfl ?_
          | refine D_gS rfl (fun _ => ?_) (fun _ => ?_)
        all_goals clear hloop hkp hkq hbeg h1 h2 hP hQ hp hq
        all_goals first | (rw [hfin]; done) | (simp only [decide_eq_true_eq, decide_eq_false_iff_not, Bool.not_eq_true', Bool.not_eq_false', Bool.not_true, Bool.not_false] at *; first | (exfalso; simp_all; done) | (exfalso; simp_all; omega) | (rw [hfin]; done))
      · repeat' first
          | refine V_O rfl ?_
          | refine O_step rfl ?_
          | refine O_nil' ?_
          | refine V_cT rfl rfl ?_
          | refine V_cF rfl rfl ?_
          | refine V_cEq rfl rfl ?_
          | refine V_cNe rfl rfl ?_
          | refine V_cB rfl rfl (fun _ => ?_) (fun _ => ?_)
          | refine O_gT' rfl ?_
          | refine O_gU' rfl ?_
          | refine O_gF' rfl rfl ?_
          | refine O_gEq rfl ?_
          | refine O_gNe rfl ?_
          | refine O_gS rfl (fun _ => ?_) (fun _ => ?_)
          | refine V_fin rfl rfl (Pl.view (by (repeat' (first | exact Pl.int _ _ | exact Pl.bool _ | exact Pl.str _ | exact Pl.nilSl | exact pl_nil | refine pl_cons ?_ ?_ | refine Pl.tuple _ ?_ | refine Pl.agg _ ?_ | refine Pl.func _ _ ?_ | assumption | refine Pl.iptr _ _ ?_ | exact pll_nil | refine pll_cons ?_ ?_ | refine Pl.sl _ _ ?_)); first | done | fail)) ?_
          | refine V_finN rfl rfl (Pl.view (by (repeat' (first | exact Pl.int _ _ | exact Pl.bool _ | exact Pl.str _ | exact Pl.nilSl | exact pl_nil | refine pl_cons ?_ ?_ | refine Pl.tuple _ ?_ | refine Pl.agg _ ?_ | refine Pl.func _ _ ?_ | assumption | refine Pl.iptr _ _ ?_ | exact pll_nil | refine pll_cons ?_ ?_ | refine Pl.sl _ _ ?_)); first | done | fail)) ?_
          | refine V_D rfl ?_
          | refine D_step rfl ?_
          | refine D_nil' ?_
          | refine D_gT' rfl ?_
          | refine D_gU' rfl ?_
          | refine D_gF' rfl rfl ?_
          | refine D_gS rfl (fun _ => ?_) (fun _ => ?_)
        rfl
end Go.Proofs.YtfdebgebnkbagaaDoor

