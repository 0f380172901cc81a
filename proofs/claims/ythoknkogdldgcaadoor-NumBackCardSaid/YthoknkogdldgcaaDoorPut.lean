/- num.Put: a number's bytes. -/
import Derived.Test.YthoknkogdldgcaaDoorBytes
set_option linter.unusedVariables false
set_option linter.unusedSimpArgs false
namespace Go.Proofs.YthoknkogdldgcaaDoor
open Go Go.AM Go.RowKit
def putL : Nat → Nat → List UInt8
  | 0, u => [UInt8.ofNat u]
  | n + 1, u => if u < 128 then [UInt8.ofNat u] else UInt8.ofNat (u % 128 + 128) :: putL n (u / 128)
theorem or128 (u : Nat) : IntKind.u8.wrap ((BitVec.ofInt 8 (IntKind.u8.wrap (u : Int)) ||| BitVec.ofInt 8 128).toNat : Int) = ((UInt8.ofNat (u % 128 + 128)).toNat : Int) := by
  have h1 : IntKind.u8.wrap (u : Int) = ((u % 256 : Nat) : Int) := by rw [wrap_u8]; omega
  rw [h1, wrap_u8]
  have h2 : ∀ b : BitVec 8, (b ||| 128#8).toNat = b.toNat % 128 + 128 := by decide
  have h3 : BitVec.ofInt 8 ((u % 256 : Nat) : Int) = BitVec.ofNat 8 (u % 256) := by rw [BitVec.ofInt_natCast]
  have h4 : BitVec.ofInt 8 128 = 128#8 := rfl
  rw [h3, h4, h2]
  simp [BitVec.toNat_ofNat, UInt8.toNat_ofNat']
theorem shr7 (u : Nat) : Int.fdiv (u : Int) (2 ^ (min (7 : Int).toNat IntKind.u64.bits)) = ((u / 128 : Nat) : Int) := by
  show Int.fdiv (u : Int) 128 = _
  rw [Int.fdiv_eq_ediv_of_nonneg _ (by omega)]
  omega
theorem put_loop : ∀ (n u : Nat) (es : List (List PV)) (e : EC) (st : St) (v : PV), u < 128 ^ (n + 1) → e.get 1 = some (.int .u64 u) → e.get 5 = some v → Acc 1 st v es → es.length + n ≤ 140000000000000 →
    V T (PE fun x e' st' => x = .exit 0 ∧ ∃ (v' : PV) (u' : Nat) (pre : List UInt8), e' = .put 1 (.int .u64 u') (.put 5 v' .nil) ∧ Acc 1 st' v' (es ++ byteCells pre) ∧ pre ++ [UInt8.ofNat u'] = putL n u ∧ u' < 128 ∧ pre.length ≤ n) [.code (.loop lp_num_Put_0)] .normal e st := by
  intro n
  induction n with
  | zero =>
    intro u es e st v hu h1 h5 hacc hb
    refine V_less (.put 1 (.int .u64 u) (.put 5 v .nil)) (less_put h1 (less_put h5 less_nil)) (V_unroll ?_)
    repeat' first | refine V_O rfl ?_ | refine O_step rfl ?_ | refine O_nil' ?_ | refine V_cT rfl rfl ?_ | refine V_cF rfl rfl ?_ | refine V_cEq rfl rfl ?_ | refine V_cNe rfl rfl ?_ | refine V_cB rfl rfl (fun _ => ?_) (fun _ => ?_) | refine O_gT' rfl ?_ | refine O_gU' rfl ?_ | refine O_gF' rfl rfl ?_ | refine O_gEq rfl ?_ | refine O_gNe rfl ?_ | refine O_gS rfl (fun _ => ?_) (fun _ => ?_) | refine V_fA rfl rfl ?_ | refine V_fAN rfl rfl ?_ | refine V_D rfl ?_ | refine D_step rfl ?_ | refine D_nil' ?_ | refine D_gT' rfl ?_ | refine D_gU' rfl ?_ | refine D_gF' rfl rfl ?_ | refine D_gS rfl (fun _ => ?_) (fun _ => ?_)
    · rename_i h
      simp at h; omega
    · exact V_less (.put 1 (.int .u64 u) (.put 5 v .nil)) (less_put rfl (less_put rfl less_nil)) (V_endP rfl ⟨rfl, v, u, [], rfl, by simpa [byteCells] using hacc, rfl, by simpa using hu, by simp⟩)
  | succ n ih =>
    intro u es e st v hu h1 h5 hacc hb
    refine V_less (.put 1 (.int .u64 u) (.put 5 v .nil)) (less_put h1 (less_put h5 less_nil)) (V_unroll ?_)
    repeat' first | refine V_O rfl ?_ | refine O_step rfl ?_ | refine O_nil' ?_ | refine V_cT rfl rfl ?_ | refine V_cF rfl rfl ?_ | refine V_cEq rfl rfl ?_ | refine V_cNe rfl rfl ?_ | refine V_cB rfl rfl (fun _ => ?_) (fun _ => ?_) | refine O_gT' rfl ?_ | refine O_gU' rfl ?_ | refine O_gF' rfl rfl ?_ | refine O_gEq rfl ?_ | refine O_gNe rfl ?_ | refine O_gS rfl (fun _ => ?_) (fun _ => ?_) | refine V_fA rfl rfl ?_ | refine V_fAN rfl rfl ?_ | refine V_D rfl ?_ | refine D_step rfl ?_ | refine D_nil' ?_ | refine D_gT' rfl ?_ | refine D_gU' rfl ?_ | refine D_gF' rfl rfl ?_ | refine D_gS rfl (fun _ => ?_) (fun _ => ?_)
    · rename_i h
      have hge : ¬ u < 128 := by simp at h; omega
      obtain ⟨v', st', k1, k2⟩ := hacc.append (sz := 1) (bytes := 1) (src := [[.int .u8 (IntKind.u8.wrap ((BitVec.ofInt 8 (IntKind.u8.wrap (u : Int)) ||| BitVec.ofInt 8 128).toNat : Int))]]) (by simp) (by simp [roomLen]; omega)
      refine O_append rfl rfl rfl rfl (by decide) (by decide) k1 ?_
      repeat' first | refine V_O rfl ?_ | refine O_step rfl ?_ | refine O_nil' ?_ | refine V_cT rfl rfl ?_ | refine V_cF rfl rfl ?_ | refine V_cEq rfl rfl ?_ | refine V_cNe rfl rfl ?_ | refine V_cB rfl rfl (fun _ => ?_) (fun _ => ?_) | refine O_gT' rfl ?_ | refine O_gU' rfl ?_ | refine O_gF' rfl rfl ?_ | refine O_gEq rfl ?_ | refine O_gNe rfl ?_ | refine O_gS rfl (fun _ => ?_) (fun _ => ?_) | refine V_fA rfl rfl ?_ | refine V_fAN rfl rfl ?_ | refine V_D rfl ?_ | refine D_step rfl ?_ | refine D_nil' ?_ | refine D_gT' rfl ?_ | refine D_gU' rfl ?_ | refine D_gF' rfl rfl ?_ | refine D_gS rfl (fun _ => ?_) (fun _ => ?_)
      refine V_monoP (ih (u / 128) _ _ _ v' (by rw [Nat.pow_succ] at hu; omega) (by
        show some (PV.int .u64 (Int.fdiv (u : Int) (2 ^ (min (7 : Int).toNat IntKind.u64.bits)))) = _
        rw [shr7]) rfl k2 (by simp; omega)) ?_
      rintro x e' st'' ⟨hx, v'', u', pre, he, hA, hpre, hu', hlen⟩
      refine ⟨hx, v'', u', UInt8.ofNat (u % 128 + 128) :: pre, he, ?_, ?_, hu', by simp; omega⟩
      · rw [or128] at hA
        simpa [byteCells] using hA
      · simp only [putL, if_neg hge, List.cons_append, hpre]
    · rename_i h
      have hlt : u < 128 := by simp at h; omega
      exact V_less (.put 1 (.int .u64 u) (.put 5 v .nil)) (less_put rfl (less_put rfl less_nil)) (V_endP rfl ⟨rfl, v, u, [], rfl, by simpa [byteCells] using hacc, by simp [putL, hlt], hlt, by simp⟩)
theorem run_Put {b : PV} {s : List UInt8} (hv : BV b s) (hs : s.length ≤ 100000000000000) (u : Nat) (hu : u < 18446744073709551616) : T.R (.call n_num_Put [b, .int .u64 u] (.sl (byteCells (s ++ putL 9 u)) false)) := by
  obtain ⟨v, st, h1, h2⟩ := run_Clone hv (by omega)
  have hst : st.base = 0 ∧ joinSt emptySt [] st = st := by
    rcases h2 with ⟨rfl, h3, rfl⟩ | ⟨g, rfl, rfl⟩ <;> exact ⟨rfl, rfl⟩
  refine call_V rfl rfl ?_
  repeat' first | refine O_rawP [] [] rfl rfl (fun t => ⟨rfl, .inl rfl⟩) hst.1 h1 ?_ | refine V_O rfl ?_ | refine O_step rfl ?_ | refine O_nil' ?_ | refine V_cT rfl rfl ?_ | refine V_cF rfl rfl ?_ | refine V_cEq rfl rfl ?_ | refine V_cNe rfl rfl ?_ | refine V_cB rfl rfl (fun _ => ?_) (fun _ => ?_) | refine O_gT' rfl ?_ | refine O_gU' rfl ?_ | refine O_gF' rfl rfl ?_ | refine O_gEq rfl ?_ | refine O_gNe rfl ?_ | refine O_gS rfl (fun _ => ?_) (fun _ => ?_) | refine V_fA rfl rfl ?_ | refine V_fAN rfl rfl ?_ | refine V_D rfl ?_ | refine D_step rfl ?_ | refine D_nil' ?_ | refine D_gT' rfl ?_ | refine D_gU' rfl ?_ | refine D_gF' rfl rfl ?_ | refine D_gS rfl (fun _ => ?_) (fun _ => ?_)
  rw [hst.2]
  refine V_cutA rfl (put_loop 9 u (byteCells s) _ st v (by omega) rfl rfl h2 (by rw [byteCells_length]; omega)) ?_
  rintro x e' st' ⟨rfl, v', u', pre, rfl, hA, hpre, hu', hlen⟩
  have hcell : [[PV.int .u8 (IntKind.u8.wrap (u' : Int))]] = byteCells [UInt8.ofNat u'] := by
    rw [wrap_u8]
    simp [byteCells]
  obtain ⟨w, st2, k1, k2⟩ := hA.append (sz := 1) (bytes := 1) (src := [[.int .u8 (IntKind.u8.wrap (u' : Int))]]) (by simp) (by simp [roomLen, byteCells]; omega)
  repeat' first | refine O_append rfl rfl rfl rfl (by decide) (by decide) k1 ?_ | refine V_O rfl ?_ | refine O_step rfl ?_ | refine O_nil' ?_ | refine V_cT rfl rfl ?_ | refine V_cF rfl rfl ?_ | refine V_cEq rfl rfl ?_ | refine V_cNe rfl rfl ?_ | refine V_cB rfl rfl (fun _ => ?_) (fun _ => ?_) | refine O_gT' rfl ?_ | refine O_gU' rfl ?_ | refine O_gF' rfl rfl ?_ | refine O_gEq rfl ?_ | refine O_gNe rfl ?_ | refine O_gS rfl (fun _ => ?_) (fun _ => ?_) | refine V_fA rfl rfl ?_ | refine V_fAN rfl rfl ?_ | refine V_D rfl ?_ | refine D_step rfl ?_ | refine D_nil' ?_ | refine D_gT' rfl ?_ | refine D_gU' rfl ?_ | refine D_gF' rfl rfl ?_ | refine D_gS rfl (fun _ => ?_) (fun _ => ?_)
  rw [hcell, ← byteCells_append, ← byteCells_append, List.append_assoc, hpre] at k2
  have hview := k2.view (pl_bytes _)
  rcases k2 with ⟨_, h3, _⟩ | ⟨g, rfl, rfl⟩
  · have : byteCells (s ++ putL 9 u) ≠ [] := by
      rw [← hpre]; simp [byteCells]
    exact absurd h3 this
  · rw [if_neg (by simp)] at hview
    exact V_fin rfl rfl hview rfl
end Go.Proofs.YthoknkogdldgcaaDoor
