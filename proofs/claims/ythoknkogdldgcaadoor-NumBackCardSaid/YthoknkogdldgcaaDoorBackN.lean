/- NumBack, over plain values. -/
import Derived.Test.YthoknkogdldgcaaDoorNZig
import Derived.Test.YthoknkogdldgcaaDoorTextA
set_option linter.unusedVariables false
set_option linter.unusedSimpArgs false
namespace Go.Proofs.YthoknkogdldgcaaDoor
open Go Go.AM Go.RowKit
open Go.Lib in
theorem dec_len : ∀ (k u : Nat), u < 10 ^ (k + 1) → (decDigits u).length ≤ k + 1
  | 0, u, h => by rw [dec_small (by simpa using h)]; simp
  | k + 1, u, h => by
    by_cases h1 : u < 10
    · rw [dec_small h1]; simp
    · have := dec_len k (u / 10) (by rw [Nat.pow_succ] at h; omega)
      rw [dec_snoc h1]
      simp
      omega
theorem p20' : (10 : Nat) ^ 20 = 100000000000000000000 := by decide
open Go.Lib in
theorem itoa_len {n : Int} (h : R64 n) : (itoa n).length ≤ 21 := by
  unfold R64 at h
  unfold itoa
  split
  · have := dec_len 19 n.natAbs (by rw [p20']; omega)
    simp
    omega
  · have := dec_len 19 n.toNat (by rw [p20']; omega)
    omega
theorem ans_cases (x : Int) : (R64 x ∧ ans x = (x, 0)) ∨ ans x = (0, 7) := by
  unfold ans R64
  by_cases h : -9223372036854775808 ≤ x ∧ x ≤ 9223372036854775807
  · rw [if_pos h]; exact .inl ⟨h, rfl⟩
  · rw [if_neg h]; exact .inr rfl
theorem par_cases (s : List UInt8) : (∃ y, R64 y ∧ parT s = (y, 0) ∧ Lib.itoa y = s) ∨ ∃ e, e ≠ 0 ∧ parT s = (0, e) := by
  by_cases hg : GoodD s
  · rcases ans_cases (sgnD s) with ⟨hr, ha⟩ | ha
    · have hp : parT s = (sgnD s, 0) := by rw [par_good hg, ha]
      exact .inl ⟨_, hr, hp, par_itoa hp⟩
    · exact .inr ⟨7, by omega, by rw [par_good hg, ha]⟩
  · exact .inr ⟨10, by omega, par_bad hg⟩
def nbC (n : Nat) : PC := (List.range n).foldl (fun c _ => match c with | .seq _ b => b | c => c) pf_ramblelaw01_NumBack.body
set_option maxHeartbeats 4000000 in
theorem nb2 {n : Int} (hn : R64 n) {u : Nat} (hu : u < 18446744073709551616) {q : PV} {b : List UInt8} (hq : BV q b) (hb : b.length ≤ 140737488351232) (s : List UInt8) : ∀ (fr : List Fr) (x : EX), adv 200 fr x = adv 200 [.code (nbC 4)] .normal → V T (Go.AM.Ends pf_ramblelaw01_NumBack (· = PV.bool true)) fr x (ecOf [(0, .int .i64 n), (1, .str s), (2, .int .u64 u), (3, q)]) emptySt := by
  intro fr x hadv
  have plq := hq.pl
  have hput := run_Put .nil (by simp) u hu
  rw [List.nil_append] at hput
  have plp := (BV.sl (putL 9 u) false).pl
  have hpl : (putL 9 u).length ≤ 10 := by
    have key : ∀ n u, (putL n u).length ≤ n + 1 := by
      intro n
      induction n with
      | zero => intro u; simp [putL]
      | succ n ih =>
        intro u
        have := ih (u / 128)
        simp only [putL]
        split
        · simp
        · simp; omega
    exact key 9 u
  have hpos := putL_ne 9 u
  obtain ⟨v1, S1, hraw, hA1, hG1⟩ := cloneG (st := ⟨0, 0, []⟩) ((BV.sl (putL 9 u) false).rb _) (by omega)
  have hA1' : AccT 1 ⟨0, S1.next, S1.toks⟩ v1 (byteCells (putL 9 u)) := hA1
  obtain ⟨v2, S2, happ, hA2, hG2⟩ := AccT_appendAny hA1' b (by omega)
  have hS2b : S2.base = 0 := hG2.1
  have hsrc : srcOf (⟨0, S1.next, S1.toks⟩ : St) q = some (byteCells b) := (hq.rb _).src
  rcases hA2 with ⟨_, h⟩ | ⟨t, g, rfl, hgt, hlt⟩
  · exact absurd h (by simp [byteCells, hpos])
  have htk := run_NTake (BV.sl (putL 9 u ++ b) false)
  rw [dec_put9 hu] at htk
  have htk' : T.R (.call n_num_Take [.sl (byteCells (putL 9 u ++ b)) false] (.tuple [.int .u64 u, .int .i64 (putL 9 u).length, .int .i64 0])) := htk
  let S : St := ⟨0, S2.next, [(t, .row g 1 (byteCells (putL 9 u ++ b)) false)]⟩
  have hSt : S.get t = some (.row g 1 (byteCells (putL 9 u ++ b)) false) := by
    show getA t [(t, Tok.row g 1 (byteCells (putL 9 u ++ b)) false)] = _
    unfold getA
    rw [if_pos rfl]
  have htoks : ∀ x ∈ S.toks, x.1 < S.next ∧ BelTok S.next x.2 ∧ (S2.get x.1 = some x.2 ∨ ∃ g sz es, x.2 = .row g sz es false ∧ S2.get x.1 = some (.row g sz es true)) := by
    intro x hx
    rcases List.mem_cons.1 hx with rfl | hx
    · exact ⟨hlt, fun cs hcs c hc => (pl_bytes _ cs hcs c hc).bel, .inr ⟨_, _, _, rfl, hgt⟩⟩
    · cases hx
  have hvw : ViewL false S.get [.osl t g 0 (byteCells (putL 9 u ++ b)).length false] [.sl (byteCells (putL 9 u ++ b)) false] := viewL_cons (view_osl0 hSt (.inr rfl) rfl (pl_bytes _)) viewL_nil
  have hfg : ∀ (ρ : EC), ρ.get 0 = some (.int .i64 n) → ρ.get 2 = some (.int .u64 u) → ρ.get 13 = some (.sl (byteCells (putL 9 u)) false) → ρ.get 49 = some (.osl t g 0 (byteCells (putL 9 u ++ b)).length false) → ∀ x ∈ [(0, PV.int .i64 n), (2, .int .u64 u), (13, .sl (byteCells (putL 9 u)) false), (49, .osl t g 0 (byteCells (putL 9 u ++ b)).length false)], ρ.get x.1 = some x.2 ∧ Bel S.next x.2 := fun ρ g0 g2 g13 g49 =>
    fg_cons g0 (.int _ _) (fg_cons g2 (.int _ _) (fg_cons g13 plp.bel (fg_cons g49 (.osl _ _ _ _ _ hlt) fg_nil)))
  have hzig := run_Zig (n := n) hn
  have hzag := run_Zag (u := zigN n) (zig_u64 hn)
  rw [zag_zig hn] at hzag
  have hzag2 := run_Zag hu
  have hzig2 := run_Zig (n := zagN u) (zag_i64 hu)
  rw [zig_zag hu] at hzig2
  have e1 : PV.bool (decide ((u : Int) = u)) = PV.bool true := dec_is rfl
  have e2 : PV.bool (decide (((putL 9 u).length : Int) = (putL 9 u).length)) = PV.bool true := dec_is rfl
  have e3 : PV.bool (decide (n = n)) = PV.bool true := dec_is rfl
  refine V_adv (hadv.trans rfl) ?_
  repeat' first | refine O_cA rfl rfl hput ?_ | refine O_rawAll hraw hG1.1 rfl rfl ?_ | refine O_append rfl rfl hsrc (okEls_bytes _) (by decide) (by decide) happ ?_ | refine O_callW _ S (hfg _ rfl rfl rfl rfl) hS2b.symm ⟨Nat.zero_le _, Nat.le_refl _⟩ htoks rfl rfl hvw htk' ?_ | refine O_lenB rfl (BV.sl (putL 9 u) false) ?_ | refine O_cA rfl rfl hzig ?_ | refine O_cA rfl rfl hzag ?_ | refine O_cA rfl rfl hzag2 ?_ | refine O_cA rfl rfl hzig2 ?_ | refine O_is e1 rfl ?_ | refine O_is e2 rfl ?_ | refine O_is e3 rfl ?_ | refine O_step rfl ?_ | refine V_O rfl ?_ | refine O_step rfl ?_ | refine O_nil' ?_ | refine V_cT rfl rfl ?_ | refine V_cF rfl rfl ?_ | refine V_cEq rfl rfl ?_ | refine V_cNe rfl rfl ?_ | refine V_cB rfl rfl (fun _ => ?_) (fun _ => ?_) | refine O_gT' rfl ?_ | refine O_gU' rfl ?_ | refine O_gF' rfl rfl ?_ | refine O_gEq rfl ?_ | refine O_gNe rfl ?_ | refine O_gS rfl (fun _ => ?_) (fun _ => ?_) | refine V_fA rfl rfl ?_ | refine V_fAN rfl rfl ?_ | refine V_D rfl ?_ | refine D_step rfl ?_ | refine D_nil' ?_ | refine D_gT' rfl ?_ | refine D_gU' rfl ?_ | refine D_gF' rfl rfl ?_ | refine D_gS rfl (fun _ => ?_) (fun _ => ?_)
  rfl
set_option maxHeartbeats 4000000 in
theorem law_NumBack {n : Int} (hn : R64 n) {s : List UInt8} (hs : s.length ≤ 281474976710656) {u : Nat} (hu : u < 18446744073709551616) {q : PV} {b : List UInt8} (hq : BV q b) (hb : b.length ≤ 140737488351232) : T.R (.call n_ramblelaw01_NumBack [.int .i64 n, .str s, .int .u64 u, q] (.bool true)) := by
  have plq := hq.pl
  have h2 := nb2 hn hu hq hb s
  have ht := run_Text hn
  have hp1 := run_Parse (s := Lib.itoa n) (by have := itoa_len hn; omega)
  rw [itoa_good hn] at hp1
  unfold two at hp1
  have hp2 := run_Parse hs
  have e1 : PV.bool (!decide (n = n)) = PV.bool false := ndec_is rfl
  rcases par_cases s with ⟨y, hy, hpy, hit⟩ | ⟨e, he, hpe⟩
  · rw [hpy] at hp2
    unfold two at hp2
    have hty := run_Text hy
    rw [hit] at hty
    have e2 : PV.bool (!decide (s = s)) = PV.bool false := ndec_is rfl
    refine call_V rfl rfl ?_
    repeat' first | refine V_re rfl (h2 _ _ rfl) ⟨rfl, rfl, rfl, rfl, trivial⟩ | refine O_cA rfl rfl ht ?_ | refine O_cA rfl rfl hp1 ?_ | refine O_cA rfl rfl hp2 ?_ | refine O_cA rfl rfl hty ?_ | refine O_is e1 rfl ?_ | refine O_is e2 rfl ?_ | refine V_O rfl ?_ | refine O_step rfl ?_ | refine O_nil' ?_ | refine V_cT rfl rfl ?_ | refine V_cF rfl rfl ?_ | refine V_cEq rfl rfl ?_ | refine V_cNe rfl rfl ?_ | refine V_cB rfl rfl (fun _ => ?_) (fun _ => ?_) | refine O_gT' rfl ?_ | refine O_gU' rfl ?_ | refine O_gF' rfl rfl ?_ | refine O_gEq rfl ?_ | refine O_gNe rfl ?_ | refine O_gS rfl (fun _ => ?_) (fun _ => ?_) | refine V_fA rfl rfl ?_ | refine V_fAN rfl rfl ?_ | refine V_D rfl ?_ | refine D_step rfl ?_ | refine D_nil' ?_ | refine D_gT' rfl ?_ | refine D_gU' rfl ?_ | refine D_gF' rfl rfl ?_ | refine D_gS rfl (fun _ => ?_) (fun _ => ?_)
  · rw [hpe] at hp2
    unfold two at hp2
    refine call_V rfl rfl ?_
    repeat' first | refine V_re rfl (h2 _ _ rfl) ⟨rfl, rfl, rfl, rfl, trivial⟩ | refine O_cA rfl rfl ht ?_ | refine O_cA rfl rfl hp1 ?_ | refine O_cA rfl rfl hp2 ?_ | refine O_is e1 rfl ?_ | refine O_is (dec_not he) rfl ?_ | refine V_O rfl ?_ | refine O_step rfl ?_ | refine O_nil' ?_ | refine V_cT rfl rfl ?_ | refine V_cF rfl rfl ?_ | refine V_cEq rfl rfl ?_ | refine V_cNe rfl rfl ?_ | refine V_cB rfl rfl (fun _ => ?_) (fun _ => ?_) | refine O_gT' rfl ?_ | refine O_gU' rfl ?_ | refine O_gF' rfl rfl ?_ | refine O_gEq rfl ?_ | refine O_gNe rfl ?_ | refine O_gS rfl (fun _ => ?_) (fun _ => ?_) | refine V_fA rfl rfl ?_ | refine V_fAN rfl rfl ?_ | refine V_D rfl ?_ | refine D_step rfl ?_ | refine D_nil' ?_ | refine D_gT' rfl ?_ | refine D_gU' rfl ?_ | refine D_gF' rfl rfl ?_ | refine D_gS rfl (fun _ => ?_) (fun _ => ?_)
end Go.Proofs.YthoknkogdldgcaaDoor
