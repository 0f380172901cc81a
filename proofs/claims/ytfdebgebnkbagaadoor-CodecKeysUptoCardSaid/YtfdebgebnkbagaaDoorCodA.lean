/- codec.After, rambleref03.After; bytes.Compare. -/
import Derived.Test.YtfdebgebnkbagaaDoorValC
import Derived.Test.YtfdebgebnkbagaaDoorAmZ
set_option linter.unusedVariables false
set_option linter.unusedSimpArgs false
namespace Go.Proofs.YtfdebgebnkbagaaDoor
open Go Go.AM Go.RowKit

theorem run_bytesCompare {p q : PV} {a b : List UInt8} (hp : BV p a) (hq : BV q b) : T.R (.call n_bytes_Compare [p, q] (.int .i64 (cmpS a b))) := by
  have hx : T.ext n_bytealg_Compare [p, q] (.int .i64 (cmpS a b)) := .inl ⟨rfl, p, q, a, b, rfl, hp, hq, by rw [cmpS_lib]⟩
  have plp := hp.pl
  have plq := hq.pl
  refine call_V rfl rfl ?_
  repeat' first
    | refine O_extP rfl rfl (viewL_pl (by (repeat' (first | exact Pl.int _ _ | exact Pl.bool _ | exact Pl.str _ | exact Pl.nilSl | exact pl_nil | refine pl_cons ?_ ?_ | refine Pl.tuple _ ?_ | refine Pl.agg _ ?_ | refine Pl.func _ _ ?_ | assumption | refine Pl.iptr _ _ ?_ | exact pll_nil | refine pll_cons ?_ ?_ | refine Pl.sl _ _ ?_)); first | done | fail)) rfl hx ?_
    | refine V_O rfl ?_
    | refine O_step rfl ?_
    | refine O_nil' ?_
    | refine V_cT rfl rfl ?_
    | refine V_cF rfl rfl ?_
    | refine V_cEq rfl rfl ?_
    | refine V_cNe rfl rfl ?_
    | refine V_cB rfl rfl (fun _ => ?_) (fun _ => ?_)
    | refine O_gT' rfl ?_
    | refine O_gU' rfl ?_
    | refine O_gF' rfl rfl ?_
    | refine O_gEq rfl ?_
    | refine O_gNe rfl ?_
    | refine O_gS rfl (fun _ => ?_) (fun _ => ?_)
    | refine V_fin rfl rfl (Pl.view (by (repeat' (first | exact Pl.int _ _ | exact Pl.bool _ | exact Pl.str _ | exact Pl.nilSl | exact pl_nil | refine pl_cons ?_ ?_ | refine Pl.tuple _ ?_ | refine Pl.agg _ ?_ | refine Pl.func _ _ ?_ | assumption | refine Pl.iptr _ _ ?_ | exact pll_nil | refine pll_cons ?_ ?_ | refine Pl.sl _ _ ?_)); first | done | fail)) ?_
    | refine V_finN rfl rfl (Pl.view (by (repeat' (first | exact Pl.int _ _ | exact Pl.bool _ | exact Pl.str _ | exact Pl.nilSl | exact pl_nil | refine pl_cons ?_ ?_ | refine Pl.tuple _ ?_ | refine Pl.agg _ ?_ | refine Pl.func _ _ ?_ | assumption | refine Pl.iptr _ _ ?_ | exact pll_nil | refine pll_cons ?_ ?_ | refine Pl.sl _ _ ?_)); first | done | fail)) ?_
    | refine V_D rfl ?_
    | refine D_step rfl ?_
    | refine D_nil' ?_
    | refine D_gT' rfl ?_
    | refine D_gU' rfl ?_
    | refine D_gF' rfl rfl ?_
    | refine D_gS rfl (fun _ => ?_) (fun _ => ?_)
  rfl
/-- What lies behind all that begin with some bytes: from the end. -/
def afterR : List UInt8 → Option (List UInt8)
  | [] => none
  | c :: r => if c = 255 then afterR r else some ((c + 1) :: r)
def after (b : List UInt8) : Option (List UInt8) := (afterR b.reverse).map List.reverse
theorem u8_255 {c : UInt8} : ((c.toNat : Int) = 255) = (c = 255) := by
  refine propext ⟨fun h => ?_, fun h => by subst h; rfl⟩
  apply UInt8.toNat_inj.1
  have : (255 : UInt8).toNat = 255 := rfl
  omega
theorem u8_lt255 {c : UInt8} : ((c.toNat : Int) < 255) = ¬ (c = 255) := by
  rw [← u8_255]
  have := c.toNat_lt
  refine propext ⟨fun h => by omega, fun h => by omega⟩
theorem u8_inc {c : UInt8} : PV.int .u8 (IntKind.u8.wrap ((c.toNat : Int) + 1)) = PV.int .u8 ((c + 1).toNat : Int) := by
  rw [wrap_u8]
  have := c.toNat_lt
  simp [UInt8.toNat_add]
def afterP (p : PV) (b : List UInt8) : EX → EC → St → Prop := fun x e' st' => x = .exit 0 ∧ st' = emptySt ∧
  ((e' = .put 0 p (.put 4 (.int .i64 0) .nil) ∧ after b = none) ∨ ∃ (r : List UInt8) (c : UInt8) (t : List UInt8), e' = .put 0 p (.put 4 (.int .i64 (r.length + 1)) .nil) ∧ b = r.reverse ++ c :: t ∧ after b = some (r.reverse ++ [c + 1]))
theorem after_loop (p : PV) (b : List UInt8) (hp : BV p b) (hb : b.length ≤ 140737488355328) : ∀ (r t : List UInt8) (e : EC), b = r.reverse ++ t → after b = (afterR r).map List.reverse → e.get 0 = some p → e.get 4 = some (.int .i64 r.length) →
    V T (PE (afterP p b)) [.code (.loop lp_codec_After_0)] .normal e emptySt := by
  intro r
  induction r with
  | nil =>
    intro t e hbt ha h0 h4
    have out : ∀ (fr : List Fr) (x : EX) (e' : EC), adv 200 fr x = ([], .exit 0) → e'.get 0 = some p → e'.get 4 = some (.int .i64 0) → V T (PE (afterP p b)) fr x e' emptySt := fun fr x e' hadv g0 g4 =>
      V_less (.put 0 p (.put 4 _ .nil)) (less_put g0 (less_put g4 less_nil)) (V_endP hadv ⟨rfl, rfl, .inl ⟨rfl, by rw [ha]; rfl⟩⟩)
    refine V_less (.put 0 p (.put 4 (.int .i64 0) .nil)) (less_put h0 (less_put h4 less_nil)) (V_unroll ?_)
    repeat' first
      | refine out _ _ _ rfl rfl rfl
      | refine V_O rfl ?_
      | refine O_step rfl ?_
      | refine O_nil' ?_
      | refine V_cT rfl rfl ?_
      | refine V_cF rfl rfl ?_
      | refine V_cEq rfl rfl ?_
      | refine V_cNe rfl rfl ?_
      | refine V_cB rfl rfl (fun _ => ?_) (fun _ => ?_)
      | refine O_gT' rfl ?_
      | refine O_gU' rfl ?_
      | refine O_gF' rfl rfl ?_
      | refine O_gEq rfl ?_
      | refine O_gNe rfl ?_
      | refine O_gS rfl (fun _ => ?_) (fun _ => ?_)
      | refine V_fin rfl rfl (Pl.view (by (repeat' (first | exact Pl.int _ _ | exact Pl.bool _ | exact Pl.str _ | exact Pl.nilSl | exact pl_nil | refine pl_cons ?_ ?_ | refine Pl.tuple _ ?_ | refine Pl.agg _ ?_ | refine Pl.func _ _ ?_ | assumption | refine Pl.iptr _ _ ?_ | exact pll_nil | refine pll_cons ?_ ?_ | refine Pl.sl _ _ ?_)); first | done | fail)) ?_
      | refine V_finN rfl rfl (Pl.view (by (repeat' (first | exact Pl.int _ _ | exact Pl.bool _ | exact Pl.str _ | exact Pl.nilSl | exact pl_nil | refine pl_cons ?_ ?_ | refine Pl.tuple _ ?_ | refine Pl.agg _ ?_ | refine Pl.func _ _ ?_ | assumption | refine Pl.iptr _ _ ?_ | exact pll_nil | refine pll_cons ?_ ?_ | refine Pl.sl _ _ ?_)); first | done | fail)) ?_
      | refine V_D rfl ?_
      | refine D_step rfl ?_
      | refine D_nil' ?_
      | refine D_gT' rfl ?_
      | refine D_gU' rfl ?_
      | refine D_gF' rfl rfl ?_
      | refine D_gS rfl (fun _ => ?_) (fun _ => ?_)
  | cons c r ih =>
    intro t e hbt ha h0 h4
    refine V_less (.put 0 p (.put 4 _ .nil)) (less_put h0 (less_put h4 less_nil)) (V_unroll ?_)
    have hlen : r.length + 1 ≤ b.length := by subst hbt; simp
    have hw : IntKind.i64.wrap (((c :: r).length : Int) - 1) = r.length := by rw [wrap_i64]; simp; omega
    have hc : b[r.length]? = some c := by subst hbt; simp
    have hat : At 1 p (IntKind.i64.wrap (((c :: r).length : Int) - 1)) [.int .u8 c.toNat] := by rw [hw]; exact hp.at (by omega) (by simpa using hc)
    have hlc : ((c :: r).length : Int) = r.length + 1 := by simp
    rw [hlc] at hat hw ⊢
    by_cases h255 : c = 255
    · have fin : ∀ (fr : List Fr) (x : EX) (e' : EC), adv 200 fr x = ([.code (.loop lp_codec_After_0)], .normal) → e'.get 0 = some p → e'.get 4 = some (.int .i64 (IntKind.i64.wrap ((r.length : Int) + 1 - 1))) → V T (PE (afterP p b)) fr x e' emptySt := fun fr x e' hadv g0 g4 => V_adv hadv (by
        rw [hw] at g4
        exact ih (c :: t) e' (by rw [hbt]; simp) (by rw [ha]; simp [afterR, h255]) g0 g4)
      repeat' first
        | refine O_at rfl rfl hat ?_
        | refine fin _ _ _ rfl rfl rfl
        | refine V_O rfl ?_
        | refine O_step rfl ?_
        | refine O_nil' ?_
        | refine V_cT rfl rfl ?_
        | refine V_cF rfl rfl ?_
        | refine V_cEq rfl rfl ?_
        | refine V_cNe rfl rfl ?_
        | refine V_cB rfl rfl (fun _ => ?_) (fun _ => ?_)
        | refine O_gT' rfl ?_
        | refine O_gU' rfl ?_
        | refine O_gF' rfl rfl ?_
        | refine O_gEq rfl ?_
        | refine O_gNe rfl ?_
        | refine O_gS rfl (fun _ => ?_) (fun _ => ?_)
        | refine V_fin rfl rfl (Pl.view (by (repeat' (first | exact Pl.int _ _ | exact Pl.bool _ | exact Pl.str _ | exact Pl.nilSl | exact pl_nil | refine pl_cons ?_ ?_ | refine Pl.tuple _ ?_ | refine Pl.agg _ ?_ | refine Pl.func _ _ ?_ | assumption | refine Pl.iptr _ _ ?_ | exact pll_nil | refine pll_cons ?_ ?_ | refine Pl.sl _ _ ?_)); first | done | fail)) ?_
        | refine V_finN rfl rfl (Pl.view (by (repeat' (first | exact Pl.int _ _ | exact Pl.bool _ | exact Pl.str _ | exact Pl.nilSl | exact pl_nil | refine pl_cons ?_ ?_ | refine Pl.tuple _ ?_ | refine Pl.agg _ ?_ | refine Pl.func _ _ ?_ | assumption | refine Pl.iptr _ _ ?_ | exact pll_nil | refine pll_cons ?_ ?_ | refine Pl.sl _ _ ?_)); first | done | fail)) ?_
        | refine V_D rfl ?_
        | refine D_step rfl ?_
        | refine D_nil' ?_
        | refine D_gT' rfl ?_
        | refine D_gU' rfl ?_
        | refine D_gF' rfl rfl ?_
        | refine D_gS rfl (fun _ => ?_) (fun _ => ?_)
      all_goals try simp only [u8_255] at *
      all_goals (exfalso; clear fin ih; simp [h255] at *; try omega)
    · have out : ∀ (fr : List Fr) (x : EX) (e' : EC), adv 200 fr x = ([], .exit 0) → e'.get 0 = some p → e'.get 4 = some (.int .i64 (r.length + 1)) → V T (PE (afterP p b)) fr x e' emptySt := fun fr x e' hadv g0 g4 =>
        V_less (.put 0 p (.put 4 _ .nil)) (less_put g0 (less_put g4 less_nil)) (V_endP hadv ⟨rfl, rfl, .inr ⟨r, c, t, rfl, by rw [hbt]; simp, by rw [ha]; simp [afterR, h255]⟩⟩)
      repeat' first
        | refine O_at rfl rfl hat ?_
        | refine out _ _ _ rfl rfl rfl
        | refine V_O rfl ?_
        | refine O_step rfl ?_
        | refine O_nil' ?_
        | refine V_cT rfl rfl ?_
        | refine V_cF rfl rfl ?_
        | refine V_cEq rfl rfl ?_
        | refine V_cNe rfl rfl ?_
        | refine V_cB rfl rfl (fun _ => ?_) (fun _ => ?_)
        | refine O_gT' rfl ?_
        | refine O_gU' rfl ?_
        | refine O_gF' rfl rfl ?_
        | refine O_gEq rfl ?_
        | refine O_gNe rfl ?_
        | refine O_gS rfl (fun _ => ?_) (fun _ => ?_)
        | refine V_fin rfl rfl (Pl.view (by (repeat' (first | exact Pl.int _ _ | exact Pl.bool _ | exact Pl.str _ | exact Pl.nilSl | exact pl_nil | refine pl_cons ?_ ?_ | refine Pl.tuple _ ?_ | refine Pl.agg _ ?_ | refine Pl.func _ _ ?_ | assumption | refine Pl.iptr _ _ ?_ | exact pll_nil | refine pll_cons ?_ ?_ | refine Pl.sl _ _ ?_)); first | done | fail)) ?_
        | refine V_finN rfl rfl (Pl.view (by (repeat' (first | exact Pl.int _ _ | exact Pl.bool _ | exact Pl.str _ | exact Pl.nilSl | exact pl_nil | refine pl_cons ?_ ?_ | refine Pl.tuple _ ?_ | refine Pl.agg _ ?_ | refine Pl.func _ _ ?_ | assumption | refine Pl.iptr _ _ ?_ | exact pll_nil | refine pll_cons ?_ ?_ | refine Pl.sl _ _ ?_)); first | done | fail)) ?_
        | refine V_D rfl ?_
        | refine D_step rfl ?_
        | refine D_nil' ?_
        | refine D_gT' rfl ?_
        | refine D_gU' rfl ?_
        | refine D_gF' rfl rfl ?_
        | refine D_gS rfl (fun _ => ?_) (fun _ => ?_)
      all_goals try simp only [u8_255] at *
      all_goals (exfalso; clear out ih; simp [h255] at *; try omega)
theorem run_After {p : PV} {b : List UInt8} (hp : BV p b) (hb : b.length ≤ 140737488355328) : (after b = none ∧ T.R (.call n_codec_After [p] (.tuple [.nilSl, .bool false]))) ∨ ∃ x, after b = some x ∧ T.R (.call n_codec_After [p] (.tuple [.sl (byteCells x) false, .bool true])) := by
  have hl := fun e h0 h1 => after_loop p b hp hb b.reverse [] e (by simp) rfl h0 h1
  rw [List.length_reverse] at hl
  have key : ∃ r, T.R (.call n_codec_After [p] r) ∧ ((after b = none ∧ r = .tuple [.nilSl, .bool false]) ∨ ∃ x, after b = some x ∧ r = .tuple [.sl (byteCells x) false, .bool true]) := by
    refine call_VQ rfl rfl ?_
    repeat' first
      | refine O_lenB rfl hp ?_
      | refine V_cutA rfl (hl _ rfl rfl) ?_
      | refine V_O rfl ?_
      | refine O_step rfl ?_
      | refine O_nil' ?_
      | refine V_cT rfl rfl ?_
      | refine V_cF rfl rfl ?_
      | refine V_cEq rfl rfl ?_
      | refine V_cNe rfl rfl ?_
      | refine V_cB rfl rfl (fun _ => ?_) (fun _ => ?_)
      | refine O_gT' rfl ?_
      | refine O_gU' rfl ?_
      | refine O_gF' rfl rfl ?_
      | refine O_gEq rfl ?_
      | refine O_gNe rfl ?_
      | refine O_gS rfl (fun _ => ?_) (fun _ => ?_)
      | refine V_fin rfl rfl (Pl.view (by (repeat' (first | exact Pl.int _ _ | exact Pl.bool _ | exact Pl.str _ | exact Pl.nilSl | exact pl_nil | refine pl_cons ?_ ?_ | refine Pl.tuple _ ?_ | refine Pl.agg _ ?_ | refine Pl.func _ _ ?_ | assumption | refine Pl.iptr _ _ ?_ | exact pll_nil | refine pll_cons ?_ ?_ | refine Pl.sl _ _ ?_)); first | done | fail)) ?_
      | refine V_finN rfl rfl (Pl.view (by (repeat' (first | exact Pl.int _ _ | exact Pl.bool _ | exact Pl.str _ | exact Pl.nilSl | exact pl_nil | refine pl_cons ?_ ?_ | refine Pl.tuple _ ?_ | refine Pl.agg _ ?_ | refine Pl.func _ _ ?_ | assumption | refine Pl.iptr _ _ ?_ | exact pll_nil | refine pll_cons ?_ ?_ | refine Pl.sl _ _ ?_)); first | done | fail)) ?_
      | refine V_D rfl ?_
      | refine D_step rfl ?_
      | refine D_nil' ?_
      | refine D_gT' rfl ?_
      | refine D_gU' rfl ?_
      | refine D_gF' rfl rfl ?_
      | refine D_gS rfl (fun _ => ?_) (fun _ => ?_)
    rintro x e' st' ⟨rfl, rfl, ⟨rfl, h⟩ | ⟨r, c, t, rfl, hbt, h⟩⟩
    · repeat' first
        | refine V_O rfl ?_
        | refine O_step rfl ?_
        | refine O_nil' ?_
        | refine V_cT rfl rfl ?_
        | refine V_cF rfl rfl ?_
        | refine V_cEq rfl rfl ?_
        | refine V_cNe rfl rfl ?_
        | refine V_cB rfl rfl (fun _ => ?_) (fun _ => ?_)
        | refine O_gT' rfl ?_
        | refine O_gU' rfl ?_
        | refine O_gF' rfl rfl ?_
        | refine O_gEq rfl ?_
        | refine O_gNe rfl ?_
        | refine O_gS rfl (fun _ => ?_) (fun _ => ?_)
        | refine V_fin rfl rfl (Pl.view (by (repeat' (first | exact Pl.int _ _ | exact Pl.bool _ | exact Pl.str _ | exact Pl.nilSl | exact pl_nil | refine pl_cons ?_ ?_ | refine Pl.tuple _ ?_ | refine Pl.agg _ ?_ | refine Pl.func _ _ ?_ | assumption | refine Pl.iptr _ _ ?_ | exact pll_nil | refine pll_cons ?_ ?_ | refine Pl.sl _ _ ?_)); first | done | fail)) ?_
        | refine V_finN rfl rfl (Pl.view (by (repeat' (first | exact Pl.int _ _ | exact Pl.bool _ | exact Pl.str _ | exact Pl.nilSl | exact pl_nil | refine pl_cons ?_ ?_ | refine Pl.tuple _ ?_ | refine Pl.agg _ ?_ | refine Pl.func _ _ ?_ | assumption | refine Pl.iptr _ _ ?_ | exact pll_nil | refine pll_cons ?_ ?_ | refine Pl.sl _ _ ?_)); first | done | fail)) ?_
        | refine V_D rfl ?_
        | refine D_step rfl ?_
        | refine D_nil' ?_
        | refine D_gT' rfl ?_
        | refine D_gU' rfl ?_
        | refine D_gF' rfl rfl ?_
        | refine D_gS rfl (fun _ => ?_) (fun _ => ?_)
      exact .inl ⟨h, rfl⟩
    · obtain ⟨v', hs1, hs2⟩ := hp.hi emptySt.get (k := .i64) (m := (r.length + 1 : Nat)) (by omega) (by subst hbt; simp; omega)
      have htk : b.take (r.length + 1) = r.reverse ++ [c] := by
        subst hbt
        rw [List.take_append, List.take_of_length_le (by simp)]
        simp
      rw [show ((r.length + 1 : Nat) : Int).toNat = r.length + 1 by omega, htk] at hs2
      obtain ⟨v, st, h1, h2⟩ := run_Clone hs2 (by subst hbt; simp at *; omega)
      rcases h2 with ⟨_, h3, _⟩ | ⟨g, rfl, rfl⟩
      · exact absurd h3 (by simp [byteCells])
      have hbl : r.length + 1 ≤ b.length := by subst hbt; simp
      have hw : IntKind.i64.wrap ((r.length : Int) + 1 - 1) = r.length := by rw [wrap_i64]; omega
      have hi0 : (0 + (IntKind.i64.wrap ((r.length : Int) + 1 - 1)).toNat) = r.length := by rw [hw]; omega
      have hci : (byteCells (r.reverse ++ [c]))[0 + (IntKind.i64.wrap ((r.length : Int) + 1 - 1)).toNat]? = some [.int .u8 c.toNat] := by
        rw [hi0]
        exact byteCells_get (by simp)
      have hin : 0 ≤ IntKind.i64.wrap ((r.length : Int) + 1 - 1) ∧ IntKind.i64.wrap ((r.length : Int) + 1 - 1) < ((byteCells (r.reverse ++ [c])).length : Nat) := by rw [hw, byteCells_length]; simp; omega
      have hes : (byteCells (r.reverse ++ [c])).set (0 + (IntKind.i64.wrap ((r.length : Int) + 1 - 1)).toNat) [.int .u8 (IntKind.u8.wrap ((c.toNat : Int) + 1))] = byteCells (r.reverse ++ [c + 1]) := by
        rw [hi0, u8_inc, byteCells_set]
        simp
      repeat' first
        | refine O_slice v' rfl rfl rfl rfl hs1 ?_
        | refine O_rawP [] [] rfl rfl (fun t => ⟨rfl, .inl rfl⟩) rfl h1 ?_
        | refine O_idxOwn rfl rfl rfl hin ?_
        | refine O_loadR rfl rfl hci rfl ?_
        | refine O_storeR rfl rfl rfl rfl rfl hci ?_
        | refine V_O rfl ?_
        | refine O_step rfl ?_
        | refine O_nil' ?_
        | refine V_cT rfl rfl ?_
        | refine V_cF rfl rfl ?_
        | refine V_cEq rfl rfl ?_
        | refine V_cNe rfl rfl ?_
        | refine V_cB rfl rfl (fun _ => ?_) (fun _ => ?_)
        | refine O_gT' rfl ?_
        | refine O_gU' rfl ?_
        | refine O_gF' rfl rfl ?_
        | refine O_gEq rfl ?_
        | refine O_gNe rfl ?_
        | refine O_gS rfl (fun _ => ?_) (fun _ => ?_)
        | refine V_fin rfl rfl (Pl.view (by (repeat' (first | exact Pl.int _ _ | exact Pl.bool _ | exact Pl.str _ | exact Pl.nilSl | exact pl_nil | refine pl_cons ?_ ?_ | refine Pl.tuple _ ?_ | refine Pl.agg _ ?_ | refine Pl.func _ _ ?_ | assumption | refine Pl.iptr _ _ ?_ | exact pll_nil | refine pll_cons ?_ ?_ | refine Pl.sl _ _ ?_)); first | done | fail)) ?_
        | refine V_finN rfl rfl (Pl.view (by (repeat' (first | exact Pl.int _ _ | exact Pl.bool _ | exact Pl.str _ | exact Pl.nilSl | exact pl_nil | refine pl_cons ?_ ?_ | refine Pl.tuple _ ?_ | refine Pl.agg _ ?_ | refine Pl.func _ _ ?_ | assumption | refine Pl.iptr _ _ ?_ | exact pll_nil | refine pll_cons ?_ ?_ | refine Pl.sl _ _ ?_)); first | done | fail)) ?_
        | refine V_D rfl ?_
        | refine D_step rfl ?_
        | refine D_nil' ?_
        | refine D_gT' rfl ?_
        | refine D_gU' rfl ?_
        | refine D_gF' rfl rfl ?_
        | refine D_gS rfl (fun _ => ?_) (fun _ => ?_)
      rw [hes]
      exact V_fin rfl rfl (view_tuple (viewL_cons (view_osl0 rfl (.inl rfl) (by simp [byteCells]) (pl_bytes _)) (viewL_cons (.bool true) viewL_nil))) (.inr ⟨_, h, rfl⟩)
  obtain ⟨r, h1, h2 | h2⟩ := key
  · exact .inl ⟨h2.1, by rw [← h2.2]; exact h1⟩
  · obtain ⟨x, h3, rfl⟩ := h2
    exact .inr ⟨x, h3, h1⟩
def after3P (b : List UInt8) : EX → EC → St → Prop := fun x e' st' => (x = .exit 0 ∧ st' = emptySt ∧ after b = none) ∨ ∃ (y : List UInt8) (g : Nat), x = .ret ∧ after b = some y ∧ e' = .put 2 (.osl 0 g 0 (byteCells y).length false) (.put 3 (.bool true) .nil) ∧ st' = ⟨0, 1, [(0, .row g 1 (byteCells y) true)]⟩
set_option maxRecDepth 100000 in
theorem after3_loop (p : PV) (b : List UInt8) (hp : BV p b) (hb : b.length ≤ 140737488355328) : ∀ (r t : List UInt8) (e : EC), b = r.reverse ++ t → after b = (afterR r).map List.reverse → e.get 0 = some p → e.get 4 = some (.int .i64 r.length) →
    V T (PE (after3P b)) [.code (.loop lp_rambleref03_After_0)] .normal e emptySt := by
  intro r
  induction r with
  | nil =>
    intro t e hbt ha h0 h4
    have out : ∀ (fr : List Fr) (x : EX) (e' : EC), adv 200 fr x = ([], .exit 0) → V T (PE (after3P b)) fr x e' emptySt := fun fr x e' hadv =>
      V_endP hadv (.inl ⟨rfl, rfl, by rw [ha]; rfl⟩)
    refine V_less (.put 0 p (.put 4 (.int .i64 0) .nil)) (less_put h0 (less_put h4 less_nil)) (V_unroll ?_)
    repeat' first
      | refine out _ _ _ rfl
      | refine V_O rfl ?_
      | refine O_step rfl ?_
      | refine O_nil' ?_
      | refine V_cT rfl rfl ?_
      | refine V_cF rfl rfl ?_
      | refine V_cEq rfl rfl ?_
      | refine V_cNe rfl rfl ?_
      | refine V_cB rfl rfl (fun _ => ?_) (fun _ => ?_)
      | refine O_gT' rfl ?_
      | refine O_gU' rfl ?_
      | refine O_gF' rfl rfl ?_
      | refine O_gEq rfl ?_
      | refine O_gNe rfl ?_
      | refine O_gS rfl (fun _ => ?_) (fun _ => ?_)
      | refine V_fin rfl rfl (Pl.view (by (repeat' (first | exact Pl.int _ _ | exact Pl.bool _ | exact Pl.str _ | exact Pl.nilSl | exact pl_nil | refine pl_cons ?_ ?_ | refine Pl.tuple _ ?_ | refine Pl.agg _ ?_ | refine Pl.func _ _ ?_ | assumption | refine Pl.iptr _ _ ?_ | exact pll_nil | refine pll_cons ?_ ?_ | refine Pl.sl _ _ ?_)); first | done | fail)) ?_
      | refine V_finN rfl rfl (Pl.view (by (repeat' (first | exact Pl.int _ _ | exact Pl.bool _ | exact Pl.str _ | exact Pl.nilSl | exact pl_nil | refine pl_cons ?_ ?_ | refine Pl.tuple _ ?_ | refine Pl.agg _ ?_ | refine Pl.func _ _ ?_ | assumption | refine Pl.iptr _ _ ?_ | exact pll_nil | refine pll_cons ?_ ?_ | refine Pl.sl _ _ ?_)); first | done | fail)) ?_
      | refine V_D rfl ?_
      | refine D_step rfl ?_
      | refine D_nil' ?_
      | refine D_gT' rfl ?_
      | refine D_gU' rfl ?_
      | refine D_gF' rfl rfl ?_
      | refine D_gS rfl (fun _ => ?_) (fun _ => ?_)
  | cons c r ih =>
    intro t e hbt ha h0 h4
    refine V_less (.put 0 p (.put 4 _ .nil)) (less_put h0 (less_put h4 less_nil)) (V_unroll ?_)
    have hlen : r.length + 1 ≤ b.length := by subst hbt; simp
    have hw : IntKind.i64.wrap (((c :: r).length : Int) - 1) = r.length := by rw [wrap_i64]; simp; omega
    have hc : b[r.length]? = some c := by subst hbt; simp
    have hat : At 1 p (IntKind.i64.wrap (((c :: r).length : Int) - 1)) [.int .u8 c.toNat] := by rw [hw]; exact hp.at (by omega) (by simpa using hc)
    have hlc : ((c :: r).length : Int) = r.length + 1 := by simp
    rw [hlc] at hat hw ⊢
    by_cases h255 : c = 255
    · have fin : ∀ (fr : List Fr) (x : EX) (e' : EC), adv 200 fr x = ([.code (.loop lp_rambleref03_After_0)], .normal) → e'.get 0 = some p → e'.get 4 = some (.int .i64 (IntKind.i64.wrap ((r.length : Int) + 1 - 1))) → V T (PE (after3P b)) fr x e' emptySt := fun fr x e' hadv g0 g4 => V_adv hadv (by
        rw [hw] at g4
        exact ih (c :: t) e' (by rw [hbt]; simp) (by rw [ha]; simp [afterR, h255]) g0 g4)
      repeat' first
        | refine O_at rfl rfl hat ?_
        | refine fin _ _ _ rfl rfl rfl
        | refine V_O rfl ?_
        | refine O_step rfl ?_
        | refine O_nil' ?_
        | refine V_cT rfl rfl ?_
        | refine V_cF rfl rfl ?_
        | refine V_cEq rfl rfl ?_
        | refine V_cNe rfl rfl ?_
        | refine V_cB rfl rfl (fun _ => ?_) (fun _ => ?_)
        | refine O_gT' rfl ?_
        | refine O_gU' rfl ?_
        | refine O_gF' rfl rfl ?_
        | refine O_gEq rfl ?_
        | refine O_gNe rfl ?_
        | refine O_gS rfl (fun _ => ?_) (fun _ => ?_)
        | refine V_fin rfl rfl (Pl.view (by (repeat' (first | exact Pl.int _ _ | exact Pl.bool _ | exact Pl.str _ | exact Pl.nilSl | exact pl_nil | refine pl_cons ?_ ?_ | refine Pl.tuple _ ?_ | refine Pl.agg _ ?_ | refine Pl.func _ _ ?_ | assumption | refine Pl.iptr _ _ ?_ | exact pll_nil | refine pll_cons ?_ ?_ | refine Pl.sl _ _ ?_)); first | done | fail)) ?_
        | refine V_finN rfl rfl (Pl.view (by (repeat' (first | exact Pl.int _ _ | exact Pl.bool _ | exact Pl.str _ | exact Pl.nilSl | exact pl_nil | refine pl_cons ?_ ?_ | refine Pl.tuple _ ?_ | refine Pl.agg _ ?_ | refine Pl.func _ _ ?_ | assumption | refine Pl.iptr _ _ ?_ | exact pll_nil | refine pll_cons ?_ ?_ | refine Pl.sl _ _ ?_)); first | done | fail)) ?_
        | refine V_D rfl ?_
        | refine D_step rfl ?_
        | refine D_nil' ?_
        | refine D_gT' rfl ?_
        | refine D_gU' rfl ?_
        | refine D_gF' rfl rfl ?_
        | refine D_gS rfl (fun _ => ?_) (fun _ => ?_)
      all_goals try simp only [u8_lt255] at *
      all_goals (exfalso; clear fin ih; simp [h255] at *; try omega)
    · have hb1 : b = r.reverse ++ c :: t := by rw [hbt]; simp
      have haf : after b = some (r.reverse ++ [c + 1]) := by rw [ha]; simp [afterR, h255]
      obtain ⟨v', hs1, hs2⟩ := hp.hi emptySt.get (k := .i64) (m := (r.length : Int) + 1) (by omega) (by omega)
      have htk : b.take (r.length + 1) = r.reverse ++ [c] := by
        rw [hb1]
        rw [List.take_append, List.take_of_length_le (by simp)]
        simp
      rw [show ((r.length : Int) + 1).toNat = r.length + 1 by omega, htk] at hs2
      have k1 := appendTo_nil (st := emptySt) (sz := 1) (bytes := 1) (src := byteCells (r.reverse ++ [c])) (by simp [byteCells]) (by rw [byteCells_length]; simp [roomLen]; omega)
      have hi0 : (0 + (IntKind.i64.wrap ((r.length : Int) + 1 - 1)).toNat) = r.length := by rw [hw]; omega
      have hci : (byteCells (r.reverse ++ [c]))[0 + (IntKind.i64.wrap ((r.length : Int) + 1 - 1)).toNat]? = some [.int .u8 c.toNat] := by
        rw [hi0]
        exact byteCells_get (by simp)
      have hin : 0 ≤ IntKind.i64.wrap ((r.length : Int) + 1 - 1) ∧ IntKind.i64.wrap ((r.length : Int) + 1 - 1) < ((byteCells (r.reverse ++ [c])).length : Nat) := by rw [hw, byteCells_length]; simp; omega
      have hes : (byteCells (r.reverse ++ [c])).set (0 + (IntKind.i64.wrap ((r.length : Int) + 1 - 1)).toNat) [.int .u8 (IntKind.u8.wrap ((c.toNat : Int) + 1))] = byteCells (r.reverse ++ [c + 1]) := by
        rw [hi0, u8_inc, byteCells_set]
        simp
      have hll : (byteCells (r.reverse ++ [c])).length = (byteCells (r.reverse ++ [c + 1])).length := by simp [byteCells]
      have ret : ∀ (fr : List Fr) (x : EX) (e' : EC), adv 200 fr x = ([], .ret) → e'.get 2 = some (.osl 0 0 0 (byteCells (r.reverse ++ [c])).length false) → e'.get 3 = some (.bool true) → V T (PE (after3P b)) fr x e' ⟨0, 1, [(0, .row 0 1 ((byteCells (r.reverse ++ [c])).set (0 + (IntKind.i64.wrap ((r.length : Int) + 1 - 1)).toNat) [.int .u8 (IntKind.u8.wrap ((c.toNat : Int) + 1))]) true)]⟩ := fun fr x e' hadv g2 g3 => by
        rw [hll] at g2
        rw [hes]
        exact V_less (.put 2 _ (.put 3 _ .nil)) (less_put g2 (less_put g3 less_nil)) (V_endP hadv (.inr ⟨_, 0, rfl, haf, rfl, rfl⟩))
      repeat' first
        | refine O_at rfl rfl hat ?_
        | refine O_slice v' rfl rfl rfl rfl hs1 ?_
        | refine O_append rfl rfl (srcOf_bytes hs2) (okEls_bytes _) (by decide) (by decide) k1 ?_
        | refine O_idxOwn rfl rfl rfl hin ?_
        | refine O_loadR rfl rfl hci rfl ?_
        | refine O_storeR rfl rfl rfl rfl rfl hci ?_
        | refine ret _ _ _ rfl rfl rfl
        | refine V_O rfl ?_
        | refine O_step rfl ?_
        | refine O_nil' ?_
        | refine V_cT rfl rfl ?_
        | refine V_cF rfl rfl ?_
        | refine V_cEq rfl rfl ?_
        | refine V_cNe rfl rfl ?_
        | refine V_cB rfl rfl (fun _ => ?_) (fun _ => ?_)
        | refine O_gT' rfl ?_
        | refine O_gU' rfl ?_
        | refine O_gF' rfl rfl ?_
        | refine O_gEq rfl ?_
        | refine O_gNe rfl ?_
        | refine O_gS rfl (fun _ => ?_) (fun _ => ?_)
        | refine V_fin rfl rfl (Pl.view (by (repeat' (first | exact Pl.int _ _ | exact Pl.bool _ | exact Pl.str _ | exact Pl.nilSl | exact pl_nil | refine pl_cons ?_ ?_ | refine Pl.tuple _ ?_ | refine Pl.agg _ ?_ | refine Pl.func _ _ ?_ | assumption | refine Pl.iptr _ _ ?_ | exact pll_nil | refine pll_cons ?_ ?_ | refine Pl.sl _ _ ?_)); first | done | fail)) ?_
        | refine V_finN rfl rfl (Pl.view (by (repeat' (first | exact Pl.int _ _ | exact Pl.bool _ | exact Pl.str _ | exact Pl.nilSl | exact pl_nil | refine pl_cons ?_ ?_ | refine Pl.tuple _ ?_ | refine Pl.agg _ ?_ | refine Pl.func _ _ ?_ | assumption | refine Pl.iptr _ _ ?_ | exact pll_nil | refine pll_cons ?_ ?_ | refine Pl.sl _ _ ?_)); first | done | fail)) ?_
        | refine V_D rfl ?_
        | refine D_step rfl ?_
        | refine D_nil' ?_
        | refine D_gT' rfl ?_
        | refine D_gU' rfl ?_
        | refine D_gF' rfl rfl ?_
        | refine D_gS rfl (fun _ => ?_) (fun _ => ?_)
      all_goals try simp only [u8_lt255] at *
      all_goals (exfalso; clear ret ih; simp [h255] at *; try omega)
theorem run_After3 {p : PV} {b : List UInt8} (hp : BV p b) (hb : b.length ≤ 140737488355328) : (after b = none ∧ T.R (.call n_rambleref03_After [p] (.tuple [.nilSl, .bool false]))) ∨ ∃ x, after b = some x ∧ T.R (.call n_rambleref03_After [p] (.tuple [.sl (byteCells x) false, .bool true])) := by
  have hl := fun e h0 h1 => after3_loop p b hp hb b.reverse [] e (by simp) rfl h0 h1
  rw [List.length_reverse] at hl
  have key : ∃ r, T.R (.call n_rambleref03_After [p] r) ∧ ((after b = none ∧ r = .tuple [.nilSl, .bool false]) ∨ ∃ x, after b = some x ∧ r = .tuple [.sl (byteCells x) false, .bool true]) := by
    refine call_VQ rfl rfl ?_
    repeat' first
      | refine O_lenB rfl hp ?_
      | refine V_cutA rfl (hl _ rfl rfl) ?_
      | refine V_O rfl ?_
      | refine O_step rfl ?_
      | refine O_nil' ?_
      | refine V_cT rfl rfl ?_
      | refine V_cF rfl rfl ?_
      | refine V_cEq rfl rfl ?_
      | refine V_cNe rfl rfl ?_
      | refine V_cB rfl rfl (fun _ => ?_) (fun _ => ?_)
      | refine O_gT' rfl ?_
      | refine O_gU' rfl ?_
      | refine O_gF' rfl rfl ?_
      | refine O_gEq rfl ?_
      | refine O_gNe rfl ?_
      | refine O_gS rfl (fun _ => ?_) (fun _ => ?_)
      | refine V_fin rfl rfl (Pl.view (by (repeat' (first | exact Pl.int _ _ | exact Pl.bool _ | exact Pl.str _ | exact Pl.nilSl | exact pl_nil | refine pl_cons ?_ ?_ | refine Pl.tuple _ ?_ | refine Pl.agg _ ?_ | refine Pl.func _ _ ?_ | assumption | refine Pl.iptr _ _ ?_ | exact pll_nil | refine pll_cons ?_ ?_ | refine Pl.sl _ _ ?_)); first | done | fail)) ?_
      | refine V_finN rfl rfl (Pl.view (by (repeat' (first | exact Pl.int _ _ | exact Pl.bool _ | exact Pl.str _ | exact Pl.nilSl | exact pl_nil | refine pl_cons ?_ ?_ | refine Pl.tuple _ ?_ | refine Pl.agg _ ?_ | refine Pl.func _ _ ?_ | assumption | refine Pl.iptr _ _ ?_ | exact pll_nil | refine pll_cons ?_ ?_ | refine Pl.sl _ _ ?_)); first | done | fail)) ?_
      | refine V_D rfl ?_
      | refine D_step rfl ?_
      | refine D_nil' ?_
      | refine D_gT' rfl ?_
      | refine D_gU' rfl ?_
      | refine D_gF' rfl rfl ?_
      | refine D_gS rfl (fun _ => ?_) (fun _ => ?_)
    rintro x e' st' (⟨rfl, rfl, h⟩ | ⟨y, g, rfl, h, rfl, rfl⟩)
    · repeat' first
        | refine V_O rfl ?_
        | refine O_step rfl ?_
        | refine O_nil' ?_
        | refine V_cT rfl rfl ?_
        | refine V_cF rfl rfl ?_
        | refine V_cEq rfl rfl ?_
        | refine V_cNe rfl rfl ?_
        | refine V_cB rfl rfl (fun _ => ?_) (fun _ => ?_)
        | refine O_gT' rfl ?_
        | refine O_gU' rfl ?_
        | refine O_gF' rfl rfl ?_
        | refine O_gEq rfl ?_
        | refine O_gNe rfl ?_
        | refine O_gS rfl (fun _ => ?_) (fun _ => ?_)
        | refine V_fin rfl rfl (Pl.view (by (repeat' (first | exact Pl.int _ _ | exact Pl.bool _ | exact Pl.str _ | exact Pl.nilSl | exact pl_nil | refine pl_cons ?_ ?_ | refine Pl.tuple _ ?_ | refine Pl.agg _ ?_ | refine Pl.func _ _ ?_ | assumption | refine Pl.iptr _ _ ?_ | exact pll_nil | refine pll_cons ?_ ?_ | refine Pl.sl _ _ ?_)); first | done | fail)) ?_
        | refine V_finN rfl rfl (Pl.view (by (repeat' (first | exact Pl.int _ _ | exact Pl.bool _ | exact Pl.str _ | exact Pl.nilSl | exact pl_nil | refine pl_cons ?_ ?_ | refine Pl.tuple _ ?_ | refine Pl.agg _ ?_ | refine Pl.func _ _ ?_ | assumption | refine Pl.iptr _ _ ?_ | exact pll_nil | refine pll_cons ?_ ?_ | refine Pl.sl _ _ ?_)); first | done | fail)) ?_
        | refine V_D rfl ?_
        | refine D_step rfl ?_
        | refine D_nil' ?_
        | refine D_gT' rfl ?_
        | refine D_gU' rfl ?_
        | refine D_gF' rfl rfl ?_
        | refine D_gS rfl (fun _ => ?_) (fun _ => ?_)
      exact .inl ⟨h, rfl⟩
    · exact V_fin rfl rfl (view_tuple (viewL_cons (view_osl0 rfl (.inl rfl) rfl (pl_bytes _)) (viewL_cons (.bool true) viewL_nil))) (.inr ⟨_, h, rfl⟩)
  obtain ⟨r, h1, h2 | h2⟩ := key
  · exact .inl ⟨h2.1, by rw [← h2.2]; exact h1⟩
  · obtain ⟨x, h3, rfl⟩ := h2
    exact .inr ⟨x, h3, h1⟩
end Go.Proofs.YtfdebgebnkbagaaDoor

