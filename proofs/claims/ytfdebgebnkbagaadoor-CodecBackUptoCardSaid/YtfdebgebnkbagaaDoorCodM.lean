/- codec.Take, rambleref03.Take. -/
import Derived.Test.YtfdebgebnkbagaaDoorCodL
set_option linter.unusedVariables false
set_option linter.unusedSimpArgs false
namespace Go.Proofs.YtfdebgebnkbagaaDoor
open Go Go.AM Go.RowKit
theorem u8_eq {c : UInt8} {k : Nat} (hk : k < 256) (h : c ≠ UInt8.ofNat k) : decide (IntKind.i64.wrap (c.toNat : Int) = (k : Int)) = false := decide_eq_false (fun e => h (by
  have := c.toNat_lt
  rw [wrap_id (by omega) (by omega)] at e
  apply UInt8.toNat_inj.1
  rw [UInt8.toNat_ofNat']
  omega))
theorem i64_ord (u : Nat) (hu : u < 18446744073709551616) : I64 (unord u) := by unfold I64 unord; omega
theorem p256 : (256 : Nat) ^ 8 = 18446744073709551616 := by decide
set_option maxHeartbeats 4000000 in
theorem run_Take {p : PV} {b : List UInt8} (hp : BV p b) (hb : b.length ≤ 1073741824) : T.R (.call n_codec_Take [p] (trPV (takeR b))) := by
  have plp := hp.pl
  cases b with
  | nil =>
    refine call_V rfl rfl ?_
    repeat' first | refine O_lenB rfl hp ?_ | refine O_cA rfl rfl (run_none _) ?_ | refine O_step rfl ?_ | refine O_stepL rfl ?_ | refine V_O rfl ?_ | refine O_step rfl ?_ | refine O_nil' ?_ | refine V_cT rfl rfl ?_ | refine V_cF rfl rfl ?_ | refine V_cEq rfl rfl ?_ | refine V_cNe rfl rfl ?_ | refine V_cB rfl rfl (fun _ => ?_) (fun _ => ?_) | refine O_gT' rfl ?_ | refine O_gU' rfl ?_ | refine O_gF' rfl rfl ?_ | refine O_gEq rfl ?_ | refine O_gNe rfl ?_ | refine O_gS rfl (fun _ => ?_) (fun _ => ?_) | refine V_fA rfl rfl ?_ | refine V_fAN rfl rfl ?_ | refine V_D rfl ?_ | refine D_step rfl ?_ | refine D_nil' ?_ | refine D_gT' rfl ?_ | refine D_gU' rfl ?_ | refine D_gF' rfl rfl ?_ | refine D_gS rfl (fun _ => ?_) (fun _ => ?_)
    rfl
  | cons c r =>
    have hne : decide (((c :: r).length : Int) = 0) = false := decide_eq_false (by simp; omega)
    have hat := hp.at (n := 0) (b := c) (by omega) rfl
    by_cases h167 : c = 1 ∨ c = 6 ∨ c = 7
    · by_cases h8 : r.length < 8
      · have hlt : decide (((c :: r).length : Int) < 9) = true := decide_eq_true (by simp; omega)
        have ht : takeR (c :: r) = .err 11 := by simp only [takeR]; rw [if_pos h167, if_pos h8]
        rw [ht]
        rcases h167 with rfl | rfl | rfl
        · refine call_V rfl rfl ?_
          repeat' first | refine O_lenB rfl hp ?_ | refine V_cH hne rfl rfl ?_ | refine V_cHT hlt rfl rfl ?_ | refine O_at rfl rfl hat ?_ | refine O_cA rfl rfl (run_none _) ?_ | refine O_step rfl ?_ | refine O_stepL rfl ?_ | refine V_O rfl ?_ | refine O_step rfl ?_ | refine O_nil' ?_ | refine V_cT rfl rfl ?_ | refine V_cF rfl rfl ?_ | refine V_cEq rfl rfl ?_ | refine V_cNe rfl rfl ?_ | refine V_cB rfl rfl (fun _ => ?_) (fun _ => ?_) | refine O_gT' rfl ?_ | refine O_gU' rfl ?_ | refine O_gF' rfl rfl ?_ | refine O_gEq rfl ?_ | refine O_gNe rfl ?_ | refine O_gS rfl (fun _ => ?_) (fun _ => ?_) | refine V_fA rfl rfl ?_ | refine V_fAN rfl rfl ?_ | refine V_D rfl ?_ | refine D_step rfl ?_ | refine D_nil' ?_ | refine D_gT' rfl ?_ | refine D_gU' rfl ?_ | refine D_gF' rfl rfl ?_ | refine D_gS rfl (fun _ => ?_) (fun _ => ?_)
          rfl
        · refine call_V rfl rfl ?_
          repeat' first | refine O_lenB rfl hp ?_ | refine V_cH hne rfl rfl ?_ | refine V_cHT hlt rfl rfl ?_ | refine O_at rfl rfl hat ?_ | refine O_cA rfl rfl (run_none _) ?_ | refine O_step rfl ?_ | refine O_stepL rfl ?_ | refine V_O rfl ?_ | refine O_step rfl ?_ | refine O_nil' ?_ | refine V_cT rfl rfl ?_ | refine V_cF rfl rfl ?_ | refine V_cEq rfl rfl ?_ | refine V_cNe rfl rfl ?_ | refine V_cB rfl rfl (fun _ => ?_) (fun _ => ?_) | refine O_gT' rfl ?_ | refine O_gU' rfl ?_ | refine O_gF' rfl rfl ?_ | refine O_gEq rfl ?_ | refine O_gNe rfl ?_ | refine O_gS rfl (fun _ => ?_) (fun _ => ?_) | refine V_fA rfl rfl ?_ | refine V_fAN rfl rfl ?_ | refine V_D rfl ?_ | refine D_step rfl ?_ | refine D_nil' ?_ | refine D_gT' rfl ?_ | refine D_gU' rfl ?_ | refine D_gF' rfl rfl ?_ | refine D_gS rfl (fun _ => ?_) (fun _ => ?_)
          rfl
        · refine call_V rfl rfl ?_
          repeat' first | refine O_lenB rfl hp ?_ | refine V_cH hne rfl rfl ?_ | refine V_cHT hlt rfl rfl ?_ | refine O_at rfl rfl hat ?_ | refine O_cA rfl rfl (run_none _) ?_ | refine O_step rfl ?_ | refine O_stepL rfl ?_ | refine V_O rfl ?_ | refine O_step rfl ?_ | refine O_nil' ?_ | refine V_cT rfl rfl ?_ | refine V_cF rfl rfl ?_ | refine V_cEq rfl rfl ?_ | refine V_cNe rfl rfl ?_ | refine V_cB rfl rfl (fun _ => ?_) (fun _ => ?_) | refine O_gT' rfl ?_ | refine O_gU' rfl ?_ | refine O_gF' rfl rfl ?_ | refine O_gEq rfl ?_ | refine O_gNe rfl ?_ | refine O_gS rfl (fun _ => ?_) (fun _ => ?_) | refine V_fA rfl rfl ?_ | refine V_fAN rfl rfl ?_ | refine V_D rfl ?_ | refine D_step rfl ?_ | refine D_nil' ?_ | refine D_gT' rfl ?_ | refine D_gU' rfl ?_ | refine D_gF' rfl rfl ?_ | refine D_gS rfl (fun _ => ?_) (fun _ => ?_)
          rfl
      · have hlt : decide (((c :: r).length : Int) < 9) = false := decide_eq_false (by simp; omega)
        have ht : takeR (c :: r) = made (.mk c.toNat (unord (un8 (r.take 8))) [] []) 9 := by simp only [takeR]; rw [if_pos h167, if_neg h8]
        have hl8 : (r.take 8).length = 8 := by simp; omega
        have hu := un8_lt (r.take 8)
        rw [hl8, p256] at hu
        have hI := i64_ord _ hu
        have hmade := fun k hk => run_made k (unord (un8 (r.take 8))) [] 9 hk hI (by simp)
        have hun := unflip _ hu
        obtain ⟨va, vb, vs, vm, vd, hf⟩ := trPV_form (made (.mk c.toNat (unord (un8 (r.take 8))) [] []) 9)
        rw [ht, hf]
        obtain ⟨f, rfl⟩ : ∃ f, p = .sl (byteCells (c :: r)) f := by cases hp with
          | sl _ f => exact ⟨f, rfl⟩
        have hs := fun look => slice_lohi (look := look) (sz := 1) (k := .i64) (k' := .i64) (lo := 1) (hi := 9) (f := f) (allOf_bytes (c :: r)) (by omega) (by omega) (by rw [byteCells_length]; simp; omega)
        have hcut : ((byteCells (c :: r)).drop (1 : Int).toNat).take ((9 : Int).toNat - (1 : Int).toNat) = byteCells (r.take 8) := by rw [byteCells_drop, byteCells_take]; rfl
        rw [hcut] at hs
        obtain ⟨fl, hfl⟩ : ∃ fl : Bool, (∀ look, sliceSl? look 1 (some (.int .i64 1)) (some (.int .i64 9)) none (.sl (byteCells (c :: r)) f) = some (.sl (byteCells (r.take 8)) fl)) := ⟨_, hs⟩
        have hQ := BV.sl (r.take 8) fl
        have hloop := fun e st h2 h5 h6 h35 h36 h37 => take_loop _ (r.take 8) hQ hl8 (.ptr 0 0) (.ptr 1 0) (r.take 8) [] e st rfl h2 h5 h6 h35 h36 h37
        have h36 := congrArg (fun n : Nat => some (PV.int .i64 (n : Int))) hl8
        rcases h167 with rfl | rfl | rfl
        · have hm1 := hmade 1 (by simp [I64])
          have hf' : trPV (made (.mk 1 (unord (un8 (r.take 8))) [] []) 9) = _ := hf
          rw [hf', ← hun] at hm1
          refine call_V rfl rfl ?_
          repeat' first | refine O_slice _ rfl rfl rfl rfl (hfl _) ?_ | refine O_lenB rfl hQ ?_ | refine V_cutA rfl (hloop _ _ rfl rfl rfl rfl h36 rfl) ?_ | refine O_lenB rfl hp ?_ | refine V_cH hne rfl rfl ?_ | refine V_cH hlt rfl rfl ?_ | refine O_at rfl rfl hat ?_ | refine O_step rfl ?_ | refine O_stepL rfl ?_ | refine V_O rfl ?_ | refine O_step rfl ?_ | refine O_nil' ?_ | refine V_cT rfl rfl ?_ | refine V_cF rfl rfl ?_ | refine V_cEq rfl rfl ?_ | refine V_cNe rfl rfl ?_ | refine V_cB rfl rfl (fun _ => ?_) (fun _ => ?_) | refine O_gT' rfl ?_ | refine O_gU' rfl ?_ | refine O_gF' rfl rfl ?_ | refine O_gEq rfl ?_ | refine O_gNe rfl ?_ | refine O_gS rfl (fun _ => ?_) (fun _ => ?_) | refine V_fA rfl rfl ?_ | refine V_fAN rfl rfl ?_ | refine V_D rfl ?_ | refine D_step rfl ?_ | refine D_nil' ?_ | refine D_gT' rfl ?_ | refine D_gU' rfl ?_ | refine D_gF' rfl rfl ?_ | refine D_gS rfl (fun _ => ?_) (fun _ => ?_)
          rintro x e' st' ⟨rfl, rfl, rfl⟩
          repeat' first | refine O_cA rfl rfl hm1 ?_ | refine O_step rfl ?_ | refine O_stepL rfl ?_ | refine V_O rfl ?_ | refine O_step rfl ?_ | refine O_nil' ?_ | refine V_cT rfl rfl ?_ | refine V_cF rfl rfl ?_ | refine V_cEq rfl rfl ?_ | refine V_cNe rfl rfl ?_ | refine V_cB rfl rfl (fun _ => ?_) (fun _ => ?_) | refine O_gT' rfl ?_ | refine O_gU' rfl ?_ | refine O_gF' rfl rfl ?_ | refine O_gEq rfl ?_ | refine O_gNe rfl ?_ | refine O_gS rfl (fun _ => ?_) (fun _ => ?_) | refine V_fA rfl rfl ?_ | refine V_fAN rfl rfl ?_ | refine V_D rfl ?_ | refine D_step rfl ?_ | refine D_nil' ?_ | refine D_gT' rfl ?_ | refine D_gU' rfl ?_ | refine D_gF' rfl rfl ?_ | refine D_gS rfl (fun _ => ?_) (fun _ => ?_)
          rfl
        · have hm1 := hmade 6 (by simp [I64])
          have hf' : trPV (made (.mk 6 (unord (un8 (r.take 8))) [] []) 9) = _ := hf
          rw [hf', ← hun] at hm1
          refine call_V rfl rfl ?_
          repeat' first | refine O_slice _ rfl rfl rfl rfl (hfl _) ?_ | refine O_lenB rfl hQ ?_ | refine V_cutA rfl (hloop _ _ rfl rfl rfl rfl h36 rfl) ?_ | refine O_lenB rfl hp ?_ | refine V_cH hne rfl rfl ?_ | refine V_cH hlt rfl rfl ?_ | refine O_at rfl rfl hat ?_ | refine O_step rfl ?_ | refine O_stepL rfl ?_ | refine V_O rfl ?_ | refine O_step rfl ?_ | refine O_nil' ?_ | refine V_cT rfl rfl ?_ | refine V_cF rfl rfl ?_ | refine V_cEq rfl rfl ?_ | refine V_cNe rfl rfl ?_ | refine V_cB rfl rfl (fun _ => ?_) (fun _ => ?_) | refine O_gT' rfl ?_ | refine O_gU' rfl ?_ | refine O_gF' rfl rfl ?_ | refine O_gEq rfl ?_ | refine O_gNe rfl ?_ | refine O_gS rfl (fun _ => ?_) (fun _ => ?_) | refine V_fA rfl rfl ?_ | refine V_fAN rfl rfl ?_ | refine V_D rfl ?_ | refine D_step rfl ?_ | refine D_nil' ?_ | refine D_gT' rfl ?_ | refine D_gU' rfl ?_ | refine D_gF' rfl rfl ?_ | refine D_gS rfl (fun _ => ?_) (fun _ => ?_)
          rintro x e' st' ⟨rfl, rfl, rfl⟩
          repeat' first | refine O_cA rfl rfl hm1 ?_ | refine O_step rfl ?_ | refine O_stepL rfl ?_ | refine V_O rfl ?_ | refine O_step rfl ?_ | refine O_nil' ?_ | refine V_cT rfl rfl ?_ | refine V_cF rfl rfl ?_ | refine V_cEq rfl rfl ?_ | refine V_cNe rfl rfl ?_ | refine V_cB rfl rfl (fun _ => ?_) (fun _ => ?_) | refine O_gT' rfl ?_ | refine O_gU' rfl ?_ | refine O_gF' rfl rfl ?_ | refine O_gEq rfl ?_ | refine O_gNe rfl ?_ | refine O_gS rfl (fun _ => ?_) (fun _ => ?_) | refine V_fA rfl rfl ?_ | refine V_fAN rfl rfl ?_ | refine V_D rfl ?_ | refine D_step rfl ?_ | refine D_nil' ?_ | refine D_gT' rfl ?_ | refine D_gU' rfl ?_ | refine D_gF' rfl rfl ?_ | refine D_gS rfl (fun _ => ?_) (fun _ => ?_)
          rfl
        · have hm1 := hmade 7 (by simp [I64])
          have hf' : trPV (made (.mk 7 (unord (un8 (r.take 8))) [] []) 9) = _ := hf
          rw [hf', ← hun] at hm1
          refine call_V rfl rfl ?_
          repeat' first | refine O_slice _ rfl rfl rfl rfl (hfl _) ?_ | refine O_lenB rfl hQ ?_ | refine V_cutA rfl (hloop _ _ rfl rfl rfl rfl h36 rfl) ?_ | refine O_lenB rfl hp ?_ | refine V_cH hne rfl rfl ?_ | refine V_cH hlt rfl rfl ?_ | refine O_at rfl rfl hat ?_ | refine O_step rfl ?_ | refine O_stepL rfl ?_ | refine V_O rfl ?_ | refine O_step rfl ?_ | refine O_nil' ?_ | refine V_cT rfl rfl ?_ | refine V_cF rfl rfl ?_ | refine V_cEq rfl rfl ?_ | refine V_cNe rfl rfl ?_ | refine V_cB rfl rfl (fun _ => ?_) (fun _ => ?_) | refine O_gT' rfl ?_ | refine O_gU' rfl ?_ | refine O_gF' rfl rfl ?_ | refine O_gEq rfl ?_ | refine O_gNe rfl ?_ | refine O_gS rfl (fun _ => ?_) (fun _ => ?_) | refine V_fA rfl rfl ?_ | refine V_fAN rfl rfl ?_ | refine V_D rfl ?_ | refine D_step rfl ?_ | refine D_nil' ?_ | refine D_gT' rfl ?_ | refine D_gU' rfl ?_ | refine D_gF' rfl rfl ?_ | refine D_gS rfl (fun _ => ?_) (fun _ => ?_)
          rintro x e' st' ⟨rfl, rfl, rfl⟩
          repeat' first | refine O_cA rfl rfl hm1 ?_ | refine O_step rfl ?_ | refine O_stepL rfl ?_ | refine V_O rfl ?_ | refine O_step rfl ?_ | refine O_nil' ?_ | refine V_cT rfl rfl ?_ | refine V_cF rfl rfl ?_ | refine V_cEq rfl rfl ?_ | refine V_cNe rfl rfl ?_ | refine V_cB rfl rfl (fun _ => ?_) (fun _ => ?_) | refine O_gT' rfl ?_ | refine O_gU' rfl ?_ | refine O_gF' rfl rfl ?_ | refine O_gEq rfl ?_ | refine O_gNe rfl ?_ | refine O_gS rfl (fun _ => ?_) (fun _ => ?_) | refine V_fA rfl rfl ?_ | refine V_fAN rfl rfl ?_ | refine V_D rfl ?_ | refine D_step rfl ?_ | refine D_nil' ?_ | refine D_gT' rfl ?_ | refine D_gU' rfl ?_ | refine D_gF' rfl rfl ?_ | refine D_gS rfl (fun _ => ?_) (fun _ => ?_)
          rfl
    · have n1 : c ≠ 1 := fun e => h167 (.inl e)
      have n6 : c ≠ 6 := fun e => h167 (.inr (.inl e))
      have n7 : c ≠ 7 := fun e => h167 (.inr (.inr e))
      by_cases h3 : c = 3
      · subst h3
        cases r with
        | nil =>
          refine call_V rfl rfl ?_
          repeat' first | refine O_lenB rfl hp ?_ | refine O_at rfl rfl hat ?_ | refine O_cA rfl rfl (run_none _) ?_ | refine O_step rfl ?_ | refine O_stepL rfl ?_ | refine V_O rfl ?_ | refine O_step rfl ?_ | refine O_nil' ?_ | refine V_cT rfl rfl ?_ | refine V_cF rfl rfl ?_ | refine V_cEq rfl rfl ?_ | refine V_cNe rfl rfl ?_ | refine V_cB rfl rfl (fun _ => ?_) (fun _ => ?_) | refine O_gT' rfl ?_ | refine O_gU' rfl ?_ | refine O_gF' rfl rfl ?_ | refine O_gEq rfl ?_ | refine O_gNe rfl ?_ | refine O_gS rfl (fun _ => ?_) (fun _ => ?_) | refine V_fA rfl rfl ?_ | refine V_fAN rfl rfl ?_ | refine V_D rfl ?_ | refine D_step rfl ?_ | refine D_nil' ?_ | refine D_gT' rfl ?_ | refine D_gU' rfl ?_ | refine D_gF' rfl rfl ?_ | refine D_gS rfl (fun _ => ?_) (fun _ => ?_)
          rfl
        | cons d r =>
          have hlt : decide (((3 :: d :: r : List UInt8).length : Int) < 2) = false := decide_eq_false (by simp; omega)
          have hat1 := hp.at (n := 1) (b := d) (by omega) rfl
          have hwd : IntKind.i64.wrap (d.toNat : Int) = d.toNat := wrap_id (by omega) (by have := d.toNat_lt; omega)
          have hm1 := run_made 3 (d.toNat : Int) [] 2 (by simp [I64]) (by have := d.toNat_lt; unfold I64; omega) (by simp)
          have ht : takeR (3 :: d :: r) = made (.mk 3 d.toNat [] []) 2 := rfl
          obtain ⟨va, vb, vs, vm, vd, hf⟩ := trPV_form (made (.mk 3 d.toNat [] []) 2)
          rw [ht, hf]
          rw [hf, ← hwd] at hm1
          refine call_V rfl rfl ?_
          repeat' first | refine O_lenB rfl hp ?_ | refine V_cH hne rfl rfl ?_ | refine V_cH hlt rfl rfl ?_ | refine O_at rfl rfl hat ?_ | refine O_at rfl rfl hat1 ?_ | refine O_cA rfl rfl hm1 ?_ | refine O_step rfl ?_ | refine O_stepL rfl ?_ | refine V_O rfl ?_ | refine O_step rfl ?_ | refine O_nil' ?_ | refine V_cT rfl rfl ?_ | refine V_cF rfl rfl ?_ | refine V_cEq rfl rfl ?_ | refine V_cNe rfl rfl ?_ | refine V_cB rfl rfl (fun _ => ?_) (fun _ => ?_) | refine O_gT' rfl ?_ | refine O_gU' rfl ?_ | refine O_gF' rfl rfl ?_ | refine O_gEq rfl ?_ | refine O_gNe rfl ?_ | refine O_gS rfl (fun _ => ?_) (fun _ => ?_) | refine V_fA rfl rfl ?_ | refine V_fAN rfl rfl ?_ | refine V_D rfl ?_ | refine D_step rfl ?_ | refine D_nil' ?_ | refine D_gT' rfl ?_ | refine D_gU' rfl ?_ | refine D_gF' rfl rfl ?_ | refine D_gS rfl (fun _ => ?_) (fun _ => ?_)
          rfl
      · by_cases h2 : c = 2
        · subst h2
          have hst := run_str hp hb
          have ht : takeR (2 :: r) = strR r [] 1 := rfl
          obtain ⟨va, vb, vs, vm, vd, hf⟩ := trPV_form (strR r [] 1)
          rw [ht, hf]
          rw [hf] at hst
          refine call_V rfl rfl ?_
          repeat' first | refine O_lenB rfl hp ?_ | refine V_cH hne rfl rfl ?_ | refine O_at rfl rfl hat ?_ | refine O_cA rfl rfl hst ?_ | refine O_step rfl ?_ | refine O_stepL rfl ?_ | refine V_O rfl ?_ | refine O_step rfl ?_ | refine O_nil' ?_ | refine V_cT rfl rfl ?_ | refine V_cF rfl rfl ?_ | refine V_cEq rfl rfl ?_ | refine V_cNe rfl rfl ?_ | refine V_cB rfl rfl (fun _ => ?_) (fun _ => ?_) | refine O_gT' rfl ?_ | refine O_gU' rfl ?_ | refine O_gF' rfl rfl ?_ | refine O_gEq rfl ?_ | refine O_gNe rfl ?_ | refine O_gS rfl (fun _ => ?_) (fun _ => ?_) | refine V_fA rfl rfl ?_ | refine V_fAN rfl rfl ?_ | refine V_D rfl ?_ | refine D_step rfl ?_ | refine D_nil' ?_ | refine D_gT' rfl ?_ | refine D_gU' rfl ?_ | refine D_gF' rfl rfl ?_ | refine D_gS rfl (fun _ => ?_) (fun _ => ?_)
          rfl
        · have ht : takeR (c :: r) = .err 30 := by simp only [takeR]; rw [if_neg h167, if_neg h3, if_neg h2]
          rw [ht]
          refine call_V rfl rfl ?_
          repeat' first | refine O_lenB rfl hp ?_ | refine V_cH hne rfl rfl ?_ | refine O_at rfl rfl hat ?_ | refine V_cH (u8_eq (k := 1) (by omega) n1) rfl rfl ?_ | refine V_cH (u8_eq (k := 6) (by omega) n6) rfl rfl ?_ | refine V_cH (u8_eq (k := 7) (by omega) n7) rfl rfl ?_ | refine V_cH (u8_eq (k := 3) (by omega) h3) rfl rfl ?_ | refine V_cH (u8_eq (k := 2) (by omega) h2) rfl rfl ?_ | refine O_cA rfl rfl (run_none _) ?_ | refine O_step rfl ?_ | refine O_stepL rfl ?_ | refine V_O rfl ?_ | refine O_step rfl ?_ | refine O_nil' ?_ | refine V_cT rfl rfl ?_ | refine V_cF rfl rfl ?_ | refine V_cEq rfl rfl ?_ | refine V_cNe rfl rfl ?_ | refine V_cB rfl rfl (fun _ => ?_) (fun _ => ?_) | refine O_gT' rfl ?_ | refine O_gU' rfl ?_ | refine O_gF' rfl rfl ?_ | refine O_gEq rfl ?_ | refine O_gNe rfl ?_ | refine O_gS rfl (fun _ => ?_) (fun _ => ?_) | refine V_fA rfl rfl ?_ | refine V_fAN rfl rfl ?_ | refine V_D rfl ?_ | refine D_step rfl ?_ | refine D_nil' ?_ | refine D_gT' rfl ?_ | refine D_gU' rfl ?_ | refine D_gF' rfl rfl ?_ | refine D_gS rfl (fun _ => ?_) (fun _ => ?_)
          rfl
end Go.Proofs.YtfdebgebnkbagaaDoor
