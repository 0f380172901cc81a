/- codec.Key; codec.Put behind nothing; begun. -/
import Derived.Test.YtfdebgebnkbagaaDoorCodE
import Derived.Test.YtfdebgebnkbagaaDoorPutV
import Derived.Test.YtfdebgebnkbagaaDoorAmZ
set_option linter.unusedVariables false
set_option linter.unusedSimpArgs false
namespace Go.Proofs.YtfdebgebnkbagaaDoor
open Go Go.AM Go.RowKit
def keyB (l : List Val) : List UInt8 := match keyR l with
  | .ok b => b
  | .error _ => []
def keyE (l : List Val) : Int := match keyR l with
  | .ok _ => 0
  | .error e => e
theorem run_Key (l : List Val) (p : PV) (hp : LC l p) (hln : l.length ≤ 1073741824) : ∃ q, BV q (keyB l) ∧ T.R (.call n_codec_Key [p] (.tuple [q, .int .i64 (keyE l)])) := by
  obtain ⟨lp1, lp2, lp3⟩ := hp.len
  have hl := fun e h4 h9 h10 h11 => key_loop l p hp hln l [] [] e emptySt .nilSl rfl (by cases keyR l <;> rfl) (by simp) (.inl ⟨rfl, rfl, rfl⟩) h4 h9 h10 h11
  have key : ∃ r, T.R (.call n_codec_Key [p] r) ∧ ∃ q, BV q (keyB l) ∧ r = .tuple [q, .int .i64 (keyE l)] := by
    refine call_VQ rfl rfl ?_
    repeat' first | refine O_lenO rfl lp1 lp2 ?_ | refine V_cutA rfl (hl _ rfl rfl rfl rfl) ?_ | refine V_O rfl ?_ | refine O_step rfl ?_ | refine O_nil' ?_ | refine V_cT rfl rfl ?_ | refine V_cF rfl rfl ?_ | refine V_cEq rfl rfl ?_ | refine V_cNe rfl rfl ?_ | refine V_cB rfl rfl (fun _ => ?_) (fun _ => ?_) | refine O_gT' rfl ?_ | refine O_gU' rfl ?_ | refine O_gF' rfl rfl ?_ | refine O_gEq rfl ?_ | refine O_gNe rfl ?_ | refine O_gS rfl (fun _ => ?_) (fun _ => ?_) | refine V_fA rfl rfl ?_ | refine V_fAN rfl rfl ?_ | refine V_D rfl ?_ | refine D_step rfl ?_ | refine D_nil' ?_ | refine D_gT' rfl ?_ | refine D_gU' rfl ?_ | refine D_gF' rfl rfl ?_ | refine D_gS rfl (fun _ => ?_) (fun _ => ?_)
    rintro x e' st' (⟨rfl, v', b', hk, rfl, hA⟩ | ⟨err, rfl, hk, rfl⟩)
    · have hb : keyB l = b' := by simp [keyB, hk]
      have he : keyE l = 0 := by simp [keyE, hk]
      rw [hb, he]
      rcases hA with ⟨rfl, rfl, rfl⟩ | ⟨g, rfl, rfl⟩
      · repeat' first | refine V_O rfl ?_ | refine O_step rfl ?_ | refine O_nil' ?_ | refine V_cT rfl rfl ?_ | refine V_cF rfl rfl ?_ | refine V_cEq rfl rfl ?_ | refine V_cNe rfl rfl ?_ | refine V_cB rfl rfl (fun _ => ?_) (fun _ => ?_) | refine O_gT' rfl ?_ | refine O_gU' rfl ?_ | refine O_gF' rfl rfl ?_ | refine O_gEq rfl ?_ | refine O_gNe rfl ?_ | refine O_gS rfl (fun _ => ?_) (fun _ => ?_) | refine V_fA rfl rfl ?_ | refine V_fAN rfl rfl ?_ | refine V_D rfl ?_ | refine D_step rfl ?_ | refine D_nil' ?_ | refine D_gT' rfl ?_ | refine D_gU' rfl ?_ | refine D_gF' rfl rfl ?_ | refine D_gS rfl (fun _ => ?_) (fun _ => ?_)
        exact ⟨_, .nil, rfl⟩
      · repeat' first | refine V_fin (r := .tuple [.sl (byteCells b') false, .int .i64 0]) rfl rfl (view_tuple (viewL_cons (view_osl0 (g := g) (sz := 1) (lv := true) (es := byteCells b') rfl (.inl rfl) rfl (pl_bytes _)) (viewL_cons (.int _ _) viewL_nil))) ?_ | refine V_O rfl ?_ | refine O_step rfl ?_ | refine O_nil' ?_ | refine V_cT rfl rfl ?_ | refine V_cF rfl rfl ?_ | refine V_cEq rfl rfl ?_ | refine V_cNe rfl rfl ?_ | refine V_cB rfl rfl (fun _ => ?_) (fun _ => ?_) | refine O_gT' rfl ?_ | refine O_gU' rfl ?_ | refine O_gF' rfl rfl ?_ | refine O_gEq rfl ?_ | refine O_gNe rfl ?_ | refine O_gS rfl (fun _ => ?_) (fun _ => ?_) | refine V_fA rfl rfl ?_ | refine V_fAN rfl rfl ?_ | refine V_D rfl ?_ | refine D_step rfl ?_ | refine D_nil' ?_ | refine D_gT' rfl ?_ | refine D_gU' rfl ?_ | refine D_gF' rfl rfl ?_ | refine D_gS rfl (fun _ => ?_) (fun _ => ?_)
        exact ⟨_, .sl _ _, rfl⟩
    · have hb : keyB l = [] := by simp [keyB, hk]
      have he : keyE l = err := by simp [keyE, hk]
      rw [hb, he]
      exact V_fin (r := .tuple [.nilSl, .int .i64 err]) rfl rfl (Pl.view (by (repeat' (first | exact Pl.int _ _ | exact Pl.bool _ | exact Pl.str _ | exact Pl.nilSl | exact pl_nil | refine pl_cons ?_ ?_ | refine Pl.tuple _ ?_ | refine Pl.agg _ ?_ | refine Pl.func _ _ ?_ | assumption | refine Pl.iptr _ _ ?_ | exact pll_nil | refine pll_cons ?_ ?_ | refine Pl.sl _ _ ?_)); first | done | fail)) ⟨_, .nil, rfl⟩
  obtain ⟨r, h1, q, h2, rfl⟩ := key
  exact ⟨q, h2, h1⟩
theorem run_CloneNil : T.R (.call n_slices_Clone_byte_byte [.nilSl] .nilSl) := by
  refine call_V rfl rfl ?_
  repeat' first | refine V_O rfl ?_ | refine O_step rfl ?_ | refine O_nil' ?_ | refine V_cT rfl rfl ?_ | refine V_cF rfl rfl ?_ | refine V_cEq rfl rfl ?_ | refine V_cNe rfl rfl ?_ | refine V_cB rfl rfl (fun _ => ?_) (fun _ => ?_) | refine O_gT' rfl ?_ | refine O_gU' rfl ?_ | refine O_gF' rfl rfl ?_ | refine O_gEq rfl ?_ | refine O_gNe rfl ?_ | refine O_gS rfl (fun _ => ?_) (fun _ => ?_) | refine V_fA rfl rfl ?_ | refine V_fAN rfl rfl ?_ | refine V_D rfl ?_ | refine D_step rfl ?_ | refine D_nil' ?_ | refine D_gT' rfl ?_ | refine D_gU' rfl ?_ | refine D_gF' rfl rfl ?_ | refine D_gS rfl (fun _ => ?_) (fun _ => ?_)
  rfl
theorem run_PutNil {v : Val} {cs : List PV} (hv : VC v cs) (hns : nsV v = true) (hm : mayV 8 v = true) (hlen : (putV v).length ≤ 100000000000000) : T.R (.call n_codec_Put [.nilSl, .agg cs] (.sl (byteCells (putV v)) false)) := by
  have hchk := run_Check hv
  have hc0 : chk v = 0 := by simp [chk, hm]
  rw [hc0] at hchk
  have plc := hv.pl
  have hA0 : (emptySt.new (.var cs)).get 0 = some (.var cs) := rfl
  have hnxt : (emptySt.new (.var cs)).next = 1 := rfl
  obtain ⟨b', st', h1, h2, h3⟩ := put_raw hv hns ⟨1, 1, (emptySt.new (.var cs)).toks⟩ .nilSl [] rfl (.inl ⟨rfl, rfl⟩) (by simpa using hlen)
  have hB0 : (⟨0, st'.next, st'.toks⟩ : St).get 0 = some (.var cs) := (h3.2.2.2 0 (by show 0 < 1; omega) (by simp [tokOf])).trans rfl
  rw [List.nil_append] at h2
  refine call_V rfl rfl ?_
  repeat' first | refine O_loadP rfl hA0 hv.len4 ?_ | refine O_cA rfl rfl hchk ?_ | refine V_M 3 ⟨0, st'.next, st'.toks⟩ rfl ?_ | refine M_call rfl (.inl rfl) rfl rfl (viewL_pl (by (repeat' (first | exact Pl.int _ _ | exact Pl.bool _ | exact Pl.str _ | exact Pl.nilSl | exact pl_nil | refine pl_cons ?_ ?_ | refine Pl.tuple _ ?_ | refine Pl.agg _ ?_ | refine Pl.func _ _ ?_ | assumption | refine Pl.iptr _ _ ?_ | exact pll_nil | refine pll_cons ?_ ?_ | refine Pl.sl _ _ ?_)); first | done | fail)) (viewL_pl (by (repeat' (first | exact Pl.int _ _ | exact Pl.bool _ | exact Pl.str _ | exact Pl.nilSl | exact pl_nil | refine pl_cons ?_ ?_ | refine Pl.tuple _ ?_ | refine Pl.agg _ ?_ | refine Pl.func _ _ ?_ | assumption | refine Pl.iptr _ _ ?_ | exact pll_nil | refine pll_cons ?_ ?_ | refine Pl.sl _ _ ?_)); first | done | fail)) run_CloneNil ?_ | refine M_loadP rfl (.inl rfl) rfl hA0 hB0 hv.len4 ?_ | refine M_rawAll h1 h3.1 rfl rfl rfl rfl ?_ | refine M_step rfl (.inl rfl) rfl rfl ?_ | refine M_step rfl (.inr rfl) rfl rfl ?_ | refine M_nil ?_ | refine O_step rfl ?_ | refine O_stepL rfl ?_ | refine V_O rfl ?_ | refine O_step rfl ?_ | refine O_nil' ?_ | refine V_cT rfl rfl ?_ | refine V_cF rfl rfl ?_ | refine V_cEq rfl rfl ?_ | refine V_cNe rfl rfl ?_ | refine V_cB rfl rfl (fun _ => ?_) (fun _ => ?_) | refine O_gT' rfl ?_ | refine O_gU' rfl ?_ | refine O_gF' rfl rfl ?_ | refine O_gEq rfl ?_ | refine O_gNe rfl ?_ | refine O_gS rfl (fun _ => ?_) (fun _ => ?_) | refine V_fA rfl rfl ?_ | refine V_fAN rfl rfl ?_ | refine V_D rfl ?_ | refine D_step rfl ?_ | refine D_nil' ?_ | refine D_gT' rfl ?_ | refine D_gU' rfl ?_ | refine D_gF' rfl rfl ?_ | refine D_gS rfl (fun _ => ?_) (fun _ => ?_)
  rcases h2 with ⟨_, h⟩ | ⟨t, g, rfl, hg, hlt⟩
  · exact absurd h (by simp [byteCells, putV_pos])
  · exact V_fin rfl rfl (view_osl0 (lv := true) (es := byteCells (putV v)) hg (.inl rfl) rfl (pl_bytes _)) rfl
theorem run_Int2 (n : Int) : T.R (.call n_rambleref02_Int [.int .i64 n] (.agg [.int .i64 1, .int .i64 n, .str [], .nilSl])) := by
  refine call_V rfl rfl ?_
  repeat' first | refine O_stepL rfl ?_ | refine V_O rfl ?_ | refine O_step rfl ?_ | refine O_nil' ?_ | refine V_cT rfl rfl ?_ | refine V_cF rfl rfl ?_ | refine V_cEq rfl rfl ?_ | refine V_cNe rfl rfl ?_ | refine V_cB rfl rfl (fun _ => ?_) (fun _ => ?_) | refine O_gT' rfl ?_ | refine O_gU' rfl ?_ | refine O_gF' rfl rfl ?_ | refine O_gEq rfl ?_ | refine O_gNe rfl ?_ | refine O_gS rfl (fun _ => ?_) (fun _ => ?_) | refine V_fA rfl rfl ?_ | refine V_fAN rfl rfl ?_ | refine V_D rfl ?_ | refine D_step rfl ?_ | refine D_nil' ?_ | refine D_gT' rfl ?_ | refine D_gU' rfl ?_ | refine D_gF' rfl rfl ?_ | refine D_gS rfl (fun _ => ?_) (fun _ => ?_)
  rfl
theorem run_Str2 (s : List UInt8) : T.R (.call n_rambleref02_Str [.str s] (.agg [.int .i64 2, .int .i64 0, .str s, .nilSl])) := by
  refine call_V rfl rfl ?_
  repeat' first | refine O_stepL rfl ?_ | refine V_O rfl ?_ | refine O_step rfl ?_ | refine O_nil' ?_ | refine V_cT rfl rfl ?_ | refine V_cF rfl rfl ?_ | refine V_cEq rfl rfl ?_ | refine V_cNe rfl rfl ?_ | refine V_cB rfl rfl (fun _ => ?_) (fun _ => ?_) | refine O_gT' rfl ?_ | refine O_gU' rfl ?_ | refine O_gF' rfl rfl ?_ | refine O_gEq rfl ?_ | refine O_gNe rfl ?_ | refine O_gS rfl (fun _ => ?_) (fun _ => ?_) | refine V_fA rfl rfl ?_ | refine V_fAN rfl rfl ?_ | refine V_D rfl ?_ | refine D_step rfl ?_ | refine D_nil' ?_ | refine D_gT' rfl ?_ | refine D_gU' rfl ?_ | refine D_gF' rfl rfl ?_ | refine D_gS rfl (fun _ => ?_) (fun _ => ?_)
  rfl
theorem run_begun : T.R (.call n_ramblelaw03_begun [] (.bool true)) := by
  have v1 : VC (.mk 1 (-1) [] []) [.int .i64 1, .int .i64 (-1), .str [], .nilSl] := .nil _ _ _ (by simp [I64]) (by simp [I64]) (by simp)
  have v2 : VC (.mk 2 0 [97] []) [.int .i64 2, .int .i64 0, .str [97], .nilSl] := .nil _ _ _ (by simp [I64]) (by simp [I64]) (by simp)
  have v3 : VC (.mk 1 300 [] []) [.int .i64 1, .int .i64 300, .str [], .nilSl] := .nil _ _ _ (by simp [I64]) (by simp [I64]) (by simp)
  have l1 : LC [.mk 1 (-1) [] [], .mk 2 0 [97] []] (.sl [[.int .i64 1, .int .i64 (-1), .str [], .nilSl], [.int .i64 2, .int .i64 0, .str [97], .nilSl]] true) := .inr ⟨_, _, rfl, by simp, rfl, fun j v cs hv hc => by
    match j with
    | 0 => simp at hv hc; subst hv hc; exact v1
    | 1 => simp at hv hc; subst hv hc; exact v2
    | j + 2 => simp at hv⟩
  have l2 : LC [.mk 1 300 [] []] (.sl [[.int .i64 1, .int .i64 300, .str [], .nilSl]] true) := .inr ⟨_, _, rfl, by simp, rfl, fun j v cs hv hc => by
    match j with
    | 0 => simp at hv hc; subst hv hc; exact v3
    | j + 1 => simp at hv⟩
  have v4 := l2.vc (k := 4) (n := 0) (s := []) (by simp [I64]) (by simp [I64]) (by simp)
  obtain ⟨q, hq1, hq2⟩ := run_Key _ _ l1 (by simp)
  have hk : keyR [.mk 1 (-1) [] [], .mk 2 0 [97] []] = .ok [1, 127, 255, 255, 255, 255, 255, 255, 255, 2, 97, 0, 1] := by rfl
  have hkb : keyB [.mk 1 (-1) [] [], .mk 2 0 [97] []] = [1, 127, 255, 255, 255, 255, 255, 255, 255, 2, 97, 0, 1] := by simp [keyB, hk]
  have hke : keyE [.mk 1 (-1) [] [], .mk 2 0 [97] []] = 0 := by simp [keyE, hk]
  rw [hkb] at hq1
  rw [hke] at hq2
  have plq := hq1.pl
  have hput := run_PutNil v4 (by rfl) (by rfl) (by simp [putV, putVs, putL, zigN])
  have hpv : putV (.mk 4 0 [] [.mk 1 300 [] []]) = [4, 1, 1, 216, 4] := by simp [putV, putVs, putL, zigN]
  rw [hpv] at hput
  have pl4 := v4.pl
  have e1 := run_Equal (s := [1, 127, 255, 255, 255, 255, 255, 255, 255, 2, 97, 0, 1]) hq1 (.sl [1, 127, 255, 255, 255, 255, 255, 255, 255, 2, 97, 0, 1] true)
  have e2 := run_Equal (.sl [4, 1, 1, 216, 4] false) (.sl [4, 1, 1, 216, 4] true)
  rw [decide_eq_true rfl] at e1 e2
  have plp := (BV.sl [4, 1, 1, 216, 4] false).pl
  refine call_V rfl rfl ?_
  repeat' first | refine O_cA rfl rfl (run_Int2 _) ?_ | refine O_cA rfl rfl (run_Str2 _) ?_ | refine O_cA rfl rfl hq2 ?_ | refine O_cA rfl rfl hput ?_ | refine O_cA rfl rfl e1 ?_ | refine O_cA rfl rfl e2 ?_ | refine V_O rfl ?_ | refine O_step rfl ?_ | refine O_nil' ?_ | refine V_cT rfl rfl ?_ | refine V_cF rfl rfl ?_ | refine V_cEq rfl rfl ?_ | refine V_cNe rfl rfl ?_ | refine V_cB rfl rfl (fun _ => ?_) (fun _ => ?_) | refine O_gT' rfl ?_ | refine O_gU' rfl ?_ | refine O_gF' rfl rfl ?_ | refine O_gEq rfl ?_ | refine O_gNe rfl ?_ | refine O_gS rfl (fun _ => ?_) (fun _ => ?_) | refine V_fA rfl rfl ?_ | refine V_fAN rfl rfl ?_ | refine V_D rfl ?_ | refine D_step rfl ?_ | refine D_nil' ?_ | refine D_gT' rfl ?_ | refine D_gU' rfl ?_ | refine D_gF' rfl rfl ?_ | refine D_gS rfl (fun _ => ?_) (fun _ => ?_)
  rfl
end Go.Proofs.YtfdebgebnkbagaaDoor
