/- The kinds of values; a step's rule: check.Kind, check.ruleOf. -/
import Derived.Test.YtinojffgmgjblaaGreatDoorInfA
import Derived.Test.YtinojffgmgjblaaGreatDoorStpD
set_option linter.unusedVariables false
set_option linter.unusedSimpArgs false
namespace Go.Proofs.YtinojffgmgjblaaGreatDoor
open Go Go.AM Go.RowKit
theorem SC.open : ∀ {n : Nat} {op : Int} {names : List (List UInt8)} {nums : List Int} {preds : List Prd} {vals : List Val} {subs : List (List Stp)} {cs : List PV}, SC n (.mk op names nums preds vals subs) cs →
    ∃ m pa pb pc pd pe, n = m + 1 ∧ I64 op ∧ cs = [.int .i64 op, pa, pb, pc, pd, pe] ∧ LR NmC pa names ∧ LR NuC pb nums ∧ LR PrC pc preds ∧ LR VC pd vals ∧ LR (SubC (SC m)) pe subs ∧ Pl pa ∧ Pl pb ∧ Pl pc ∧ Pl pd ∧ Pl pe
  | 0, _, _, _, _, _, _, _, h => h.elim
  | n + 1, op, names, nums, preds, vals, subs, cs, h => by
    have plcs := h.pl
    obtain ⟨ho, pa, pb, pc, pd, pe, rfl, h1, h2, h3, h4, h5⟩ := h
    exact ⟨n, pa, pb, pc, pd, pe, rfl, ho, rfl, h1, h2, h3, h4, h5, plcs _ (by simp), plcs _ (by simp), plcs _ (by simp), plcs _ (by simp), plcs _ (by simp)⟩
theorem kind_loop {p : PV} {l : List Val} (hp : LR VC p l) : ∀ (rest pre : List Val) (acc : Nat), l = pre ++ rest → KS acc →
    V T (PE fun x e st' => x = .exit 0 ∧ e = ecOf [(3, .int .i64 ((rest.foldl kstep acc : Nat) : Int))]) [.code (.loop lp_check_Kind_0)] .normal (ecOf [(3, .int .i64 (acc : Int)), (6, p), (7, .int .i64 l.length), (8, .int .i64 pre.length)]) emptySt := by
  obtain ⟨lp1, lp2, lp3⟩ := hp.len
  have plp : Pl p := hp.pl fun _ _ _ h => h.pl
  intro rest
  induction rest with
  | nil =>
    intro pre acc ha hk
    have hlt : ¬ (pre.length : Int) < l.length := by subst ha; simp
    refine V_unroll ?_
    repeat' first | refine V_cHF rfl rfl hlt ?_ | refine V_out [(3, .int .i64 (acc : Int))] rfl ⟨rfl, trivial⟩ ⟨rfl, rfl⟩ | refine V_O rfl ?_ | refine O_step rfl ?_ | refine O_nil' ?_ | refine V_cT rfl rfl ?_ | refine V_cF rfl rfl ?_ | refine V_cEq rfl rfl ?_ | refine V_cNe rfl rfl ?_ | refine V_cB rfl rfl (fun _ => ?_) (fun _ => ?_) | refine O_gT' rfl ?_ | refine O_gU' rfl ?_ | refine O_gF' rfl rfl ?_ | refine O_gEq rfl ?_ | refine O_gNe rfl ?_ | refine O_gS rfl (fun _ => ?_) (fun _ => ?_) | refine V_fA rfl rfl ?_ | refine V_fAN rfl rfl ?_ | refine V_D rfl ?_ | refine D_step rfl ?_ | refine D_nil' ?_ | refine D_gT' rfl ?_ | refine D_gU' rfl ?_ | refine D_gF' rfl rfl ?_ | refine D_gS rfl (fun _ => ?_) (fun _ => ?_)
  | cons y rest ih =>
    intro pre acc ha hk
    have hlt : (pre.length : Int) < l.length := by subst ha; simp; omega
    have hll : pre.length < l.length := by subst ha; simp
    have hy : l[pre.length]? = some y := by subst ha; simp
    obtain ⟨cy, ay, hc⟩ := hp.at (sz := 4) (fun _ _ h => h.len4) hy
    have onec := List.all_eq_true.1 hc.one
    have len4 := hc.len4
    have hw : IntKind.i64.wrap ((pre.length : Int) + 1) = ((pre ++ [y]).length : Int) := by rw [wrap_i64]; simp; omega
    have hi := ih (pre ++ [y]) _ (by rw [ha]; simp) (kind_step hk y)
    obtain ⟨k, n, s, vl⟩ := y
    obtain ⟨hk1, hn1, hs1, q, rfl, hq⟩ := hc.open
    rw [List.foldl_cons]
    refine V_unroll ?_
    by_cases h1 : 0 < k
    · by_cases h2 : k ≤ 7
      · have hb := bit_ks ⟨h1, h2⟩
        have e1 : IntKind.i64.wrap (1 * 2 ^ (min k.toNat IntKind.i64.bits)) = ((2 ^ k.toNat : Nat) : Int) := by
          rw [Nat.min_eq_left (by have : IntKind.i64.bits = 64 := rfl; omega), Int.one_mul]
          have := hb.le
          have e : (2 : Int) ^ k.toNat = ((2 ^ k.toNat : Nat) : Int) := by simp
          rw [e]
          exact wrapN (by omega)
        have e2 : PV.int .i64 (IntKind.i64.wrap ((BitVec.ofInt 64 (acc : Int) ||| BitVec.ofInt 64 (IntKind.i64.wrap (1 * 2 ^ (min k.toNat IntKind.i64.bits)))).toNat : Int)) = PV.int .i64 ((acc ||| 2 ^ k.toNat : Nat) : Int) := int_is (by rw [e1]; exact or_is hk hb)
        have ek : kstep acc (.mk k n s vl) = acc ||| 2 ^ k.toNat := if_pos ⟨h1, h2⟩
        rw [ek] at hi ⊢
        repeat' first | refine V_cHY rfl rfl hlt ?_ | refine O_at rfl rfl ay ?_ | refine O_loadA rfl len4 ?_ | refine O_is (dec_is h1) rfl ?_ | refine O_is (dec_is h2) rfl ?_ | refine O_shl rfl rfl (by omega) ?_ | refine O_is e2 rfl ?_ | refine O_step rfl ?_ | refine O_storeW rfl rfl onec rfl rfl rfl rfl ?_ | refine O_stepL rfl ?_ | refine V_reF rfl hi rfl ⟨rfl, rfl, rfl, some_int hw, trivial⟩ ⟨.int _ _, plp, .int _ _, .int _ _, trivial⟩ | refine V_O rfl ?_ | refine O_step rfl ?_ | refine O_nil' ?_ | refine V_cT rfl rfl ?_ | refine V_cF rfl rfl ?_ | refine V_cEq rfl rfl ?_ | refine V_cNe rfl rfl ?_ | refine V_cB rfl rfl (fun _ => ?_) (fun _ => ?_) | refine O_gT' rfl ?_ | refine O_gU' rfl ?_ | refine O_gF' rfl rfl ?_ | refine O_gEq rfl ?_ | refine O_gNe rfl ?_ | refine O_gS rfl (fun _ => ?_) (fun _ => ?_) | refine V_fA rfl rfl ?_ | refine V_fAN rfl rfl ?_ | refine V_D rfl ?_ | refine D_step rfl ?_ | refine D_nil' ?_ | refine D_gT' rfl ?_ | refine D_gU' rfl ?_ | refine D_gF' rfl rfl ?_ | refine D_gS rfl (fun _ => ?_) (fun _ => ?_)
      · have ek : kstep acc (.mk k n s vl) = acc := if_neg (fun h => h2 h.2)
        rw [ek] at hi ⊢
        repeat' first | refine V_cHY rfl rfl hlt ?_ | refine O_at rfl rfl ay ?_ | refine O_loadA rfl len4 ?_ | refine O_is (dec_is h1) rfl ?_ | refine O_is (dec_not h2) rfl ?_ | refine O_step rfl ?_ | refine O_storeW rfl rfl onec rfl rfl rfl rfl ?_ | refine O_stepL rfl ?_ | refine V_reF rfl hi rfl ⟨rfl, rfl, rfl, some_int hw, trivial⟩ ⟨.int _ _, plp, .int _ _, .int _ _, trivial⟩ | refine V_O rfl ?_ | refine O_step rfl ?_ | refine O_nil' ?_ | refine V_cT rfl rfl ?_ | refine V_cF rfl rfl ?_ | refine V_cEq rfl rfl ?_ | refine V_cNe rfl rfl ?_ | refine V_cB rfl rfl (fun _ => ?_) (fun _ => ?_) | refine O_gT' rfl ?_ | refine O_gU' rfl ?_ | refine O_gF' rfl rfl ?_ | refine O_gEq rfl ?_ | refine O_gNe rfl ?_ | refine O_gS rfl (fun _ => ?_) (fun _ => ?_) | refine V_fA rfl rfl ?_ | refine V_fAN rfl rfl ?_ | refine V_D rfl ?_ | refine D_step rfl ?_ | refine D_nil' ?_ | refine D_gT' rfl ?_ | refine D_gU' rfl ?_ | refine D_gF' rfl rfl ?_ | refine D_gS rfl (fun _ => ?_) (fun _ => ?_)
    · have ek : kstep acc (.mk k n s vl) = acc := if_neg (fun h => h1 h.1)
      rw [ek] at hi ⊢
      repeat' first | refine V_cHY rfl rfl hlt ?_ | refine O_at rfl rfl ay ?_ | refine O_loadA rfl len4 ?_ | refine O_is (dec_not h1) rfl ?_ | refine O_step rfl ?_ | refine O_storeW rfl rfl onec rfl rfl rfl rfl ?_ | refine O_stepL rfl ?_ | refine V_reF rfl hi rfl ⟨rfl, rfl, rfl, some_int hw, trivial⟩ ⟨.int _ _, plp, .int _ _, .int _ _, trivial⟩ | refine V_O rfl ?_ | refine O_step rfl ?_ | refine O_nil' ?_ | refine V_cT rfl rfl ?_ | refine V_cF rfl rfl ?_ | refine V_cEq rfl rfl ?_ | refine V_cNe rfl rfl ?_ | refine V_cB rfl rfl (fun _ => ?_) (fun _ => ?_) | refine O_gT' rfl ?_ | refine O_gU' rfl ?_ | refine O_gF' rfl rfl ?_ | refine O_gEq rfl ?_ | refine O_gNe rfl ?_ | refine O_gS rfl (fun _ => ?_) (fun _ => ?_) | refine V_fA rfl rfl ?_ | refine V_fAN rfl rfl ?_ | refine V_D rfl ?_ | refine D_step rfl ?_ | refine D_nil' ?_ | refine D_gT' rfl ?_ | refine D_gU' rfl ?_ | refine D_gF' rfl rfl ?_ | refine D_gS rfl (fun _ => ?_) (fun _ => ?_)
theorem run_Kind {p : PV} {l : List Val} (hp : LR VC p l) : T.R (.call n_check_Kind [p] (.int .i64 (kindS l : Int))) := by
  obtain ⟨lp1, lp2, lp3⟩ := hp.len
  have hl := kind_loop hp l [] 0 rfl (sub_zero _)
  refine call_V rfl rfl ?_
  repeat' first | refine O_lenO rfl lp1 lp2 ?_ | refine V_cutTo rfl hl ⟨rfl, rfl, rfl, rfl, trivial⟩ ?_ | refine V_O rfl ?_ | refine O_step rfl ?_ | refine O_nil' ?_ | refine V_cT rfl rfl ?_ | refine V_cF rfl rfl ?_ | refine V_cEq rfl rfl ?_ | refine V_cNe rfl rfl ?_ | refine V_cB rfl rfl (fun _ => ?_) (fun _ => ?_) | refine O_gT' rfl ?_ | refine O_gU' rfl ?_ | refine O_gF' rfl rfl ?_ | refine O_gEq rfl ?_ | refine O_gNe rfl ?_ | refine O_gS rfl (fun _ => ?_) (fun _ => ?_) | refine V_fA rfl rfl ?_ | refine V_fAN rfl rfl ?_ | refine V_D rfl ?_ | refine D_step rfl ?_ | refine D_nil' ?_ | refine D_gT' rfl ?_ | refine D_gU' rfl ?_ | refine D_gF' rfl rfl ?_ | refine D_gS rfl (fun _ => ?_) (fun _ => ?_)
  rintro x e' st' ⟨rfl, rfl⟩
  repeat' first | refine V_O rfl ?_ | refine O_step rfl ?_ | refine O_nil' ?_ | refine V_cT rfl rfl ?_ | refine V_cF rfl rfl ?_ | refine V_cEq rfl rfl ?_ | refine V_cNe rfl rfl ?_ | refine V_cB rfl rfl (fun _ => ?_) (fun _ => ?_) | refine O_gT' rfl ?_ | refine O_gU' rfl ?_ | refine O_gF' rfl rfl ?_ | refine O_gEq rfl ?_ | refine O_gNe rfl ?_ | refine O_gS rfl (fun _ => ?_) (fun _ => ?_) | refine V_fA rfl rfl ?_ | refine V_fAN rfl rfl ?_ | refine V_D rfl ?_ | refine D_step rfl ?_ | refine D_nil' ?_ | refine D_gT' rfl ?_ | refine D_gU' rfl ?_ | refine D_gF' rfl rfl ?_ | refine D_gS rfl (fun _ => ?_) (fun _ => ?_)
  rfl
def ruleP (x : Nat × Nat × Bool) : PV := .agg [.int .i64 (x.1 : Int), .int .i64 (x.2.1 : Int), .bool x.2.2]
set_option maxHeartbeats 4000000 in
theorem run_ruleOf {n : Nat} {op : Int} {names : List (List UInt8)} {nums : List Int} {preds : List Prd} {vals : List Val} {subs : List (List Stp)} {cs : List PV} (h : SC n (.mk op names nums preds vals subs) cs) :
    T.R (.call n_check_ruleOf [.agg cs] (ruleP (ruleS op names.length (kindS vals)))) := by
  obtain ⟨m, pa, pb, pc, pd, pe, rfl, ho, rfl, h1, h2, h3, h4, h5, pla, plb, plc, pld, ple⟩ := h.open
  obtain ⟨la1, la2, la3⟩ := h1.len
  have hk := run_Kind h4
  have hW := run_Word ho
  have hne := bool_is (stepW_ne op)
  generalize stepW op = w at *
  generalize kindS vals = kd at *
  clear h1 h2 h3 h4 h5 la3 h
  refine call_V rfl rfl ?_
  repeat' first | refine V_cT rfl rfl ?_ | refine V_cF rfl rfl ?_ | refine V_cS rfl rfl (fun _ => ?_) (fun _ => ?_) | refine O_lenO rfl la1 la2 ?_ | refine O_cA rfl rfl hk ?_ | refine O_cA rfl rfl hW ?_ | refine O_is hne rfl ?_ | refine O_step rfl ?_ | refine O_stepL rfl ?_ | refine V_O rfl ?_ | refine O_step rfl ?_ | refine O_nil' ?_ | refine V_cT rfl rfl ?_ | refine V_cF rfl rfl ?_ | refine V_cEq rfl rfl ?_ | refine V_cNe rfl rfl ?_ | refine V_cB rfl rfl (fun _ => ?_) (fun _ => ?_) | refine O_gT' rfl ?_ | refine O_gU' rfl ?_ | refine O_gF' rfl rfl ?_ | refine O_gEq rfl ?_ | refine O_gNe rfl ?_ | refine O_gS rfl (fun _ => ?_) (fun _ => ?_) | refine V_fA rfl rfl ?_ | refine V_fAN rfl rfl ?_ | refine V_D rfl ?_ | refine D_step rfl ?_ | refine D_nil' ?_ | refine D_gT' rfl ?_ | refine D_gU' rfl ?_ | refine D_gF' rfl rfl ?_ | refine D_gS rfl (fun _ => ?_) (fun _ => ?_)
  all_goals clear hk hW hne la1 la2 pla plb plc pld ple
  all_goals simp only [decide_eq_true_eq, decide_eq_false_iff_not] at *
  all_goals first
    | (subst_vars; rfl)
    | (subst_vars; have h' : 0 < names.length := (by omega); show _ = ruleP (if 0 < names.length then (192, 32, false) else (254, 32, false)); rw [if_pos h']; rfl)
    | (subst_vars; have h' : ¬ 0 < names.length := (by omega); show _ = ruleP (if 0 < names.length then (192, 32, false) else (254, 32, false)); rw [if_neg h']; rfl)
    | (subst_vars; have h' : 1 < names.length := (by omega); show _ = ruleP (if 1 < names.length then (254, 32, false) else (254, 254, false)); rw [if_pos h']; rfl)
    | (subst_vars; have h' : ¬ 1 < names.length := (by omega); show _ = ruleP (if 1 < names.length then (254, 32, false) else (254, 254, false)); rw [if_neg h']; rfl)
    | (have e : ruleS op names.length kd = if 1 ≤ op ∧ op ≤ 60 then (254, 0, true) else (0, 0, false) := (by unfold ruleS; simp only [*, or_self, if_false]); rw [e]; have h' := ‹(!opB op) = true›; have h2 : ¬ (1 ≤ op ∧ op ≤ 60) := (by intro h; simp [opB, h.1, h.2] at h'); rw [if_neg h2]; rfl)
    | (have e : ruleS op names.length kd = if 1 ≤ op ∧ op ≤ 60 then (254, 0, true) else (0, 0, false) := (by unfold ruleS; simp only [*, or_self, if_false]); rw [e]; have h' := ‹(!opB op) = false›; have h2 : 1 ≤ op ∧ op ≤ 60 := (by simpa [opB] using h'); rw [if_pos h2]; rfl)
end Go.Proofs.YtinojffgmgjblaaGreatDoor
