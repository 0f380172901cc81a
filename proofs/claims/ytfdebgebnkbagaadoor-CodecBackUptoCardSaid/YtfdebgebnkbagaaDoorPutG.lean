/- slices.Clone and num.Put, whatever is one's own already. -/
import Derived.Test.YtfdebgebnkbagaaDoorPut
import Derived.Test.YtfdebgebnkbagaaDoorAmZ
set_option linter.unusedVariables false
set_option linter.unusedSimpArgs false
namespace Go.Proofs.YtfdebgebnkbagaaDoor
open Go Go.AM Go.RowKit
theorem cloneG {st : St} {v : PV} {s : List UInt8} (hv : RB st v s) (hl : s.length ≤ 140737488355328) : ∃ v' st', T.R (.raw n_slices_Clone_byte_byte [v] st v' st') ∧ AccT 1 st' v' (byteCells s) ∧ Grow st .nilSl st' v' := by
  have hsrc : srcOf (st.new (.row 0 1 [] true)) v = some (byteCells s) := (hv.keep (st' := st.new (.row 0 1 [] true)) (by simp [St.new]) (fun u hu => St.get_new_old (hv.lt hu))).src
  refine raw_VQ rfl rfl ?_
  by_cases hn : v = .nilSl
  · subst hn
    have hs : s = [] := by
      rcases hv with ⟨_, h⟩ | ⟨f, h⟩ | ⟨t, g, lv, h, _⟩
      · exact h
      · cases h
      · cases h
    subst hs
    repeat' first | refine V_finRQ rfl rfl ?_ | refine V_O rfl ?_ | refine O_step rfl ?_ | refine O_nil' ?_ | refine V_cT rfl rfl ?_ | refine V_cF rfl rfl ?_ | refine V_cEq rfl rfl ?_ | refine V_cNe rfl rfl ?_ | refine V_cB rfl rfl (fun _ => ?_) (fun _ => ?_) | refine O_gT' rfl ?_ | refine O_gU' rfl ?_ | refine O_gF' rfl rfl ?_ | refine O_gEq rfl ?_ | refine O_gNe rfl ?_ | refine O_gS rfl (fun _ => ?_) (fun _ => ?_) | refine V_fA rfl rfl ?_ | refine V_fAN rfl rfl ?_ | refine V_D rfl ?_ | refine D_step rfl ?_ | refine D_nil' ?_ | refine D_gT' rfl ?_ | refine D_gU' rfl ?_ | refine D_gF' rfl rfl ?_ | refine D_gS rfl (fun _ => ?_) (fun _ => ?_)
    exact ⟨.inl ⟨rfl, rfl⟩, .refl _ _⟩
  · have hnn : isNil 0 v = some false := by
      rcases hv with ⟨h, _⟩ | ⟨f, rfl⟩ | ⟨t, g, lv, rfl, _⟩
      · exact absurd h hn
      · rfl
      · rfl
    have hq : ∀ (e : EC), e.get 3 = some v → stepQ st.get e (.eqNil false 0 (.t 3)) = some (.bool false) := fun e he => by
      simp only [stepQ, get1, Opd.get, he, hnn]
      rfl
    have hg0 : AccT 1 (st.new (.row 0 1 [] true)) (.osl st.next 0 0 (([] : List (List PV)).length) false) [] := .inr ⟨st.next, 0, rfl, St.get_new, by simp [St.new]⟩
    have hgr : Grow st .nilSl (st.new (.row 0 1 [] true)) (.osl st.next 0 0 (([] : List (List PV)).length) false) := ⟨rfl, by simp [St.new], .inr ⟨st.next, rfl, Nat.le_refl _⟩, fun u hu _ => St.get_new_old hu⟩
    by_cases hs : s = []
    · subst hs
      repeat' first | refine O_step (hq _ rfl) ?_ | refine O_append rfl rfl hsrc (okEls_bytes _) (by decide) (by decide) (appendTo_none (.inr (.inr ⟨_, _, _, _, _, rfl⟩))) ?_ | refine O_stepL rfl ?_ | refine V_finRQ rfl rfl ?_ | refine V_O rfl ?_ | refine O_step rfl ?_ | refine O_nil' ?_ | refine V_cT rfl rfl ?_ | refine V_cF rfl rfl ?_ | refine V_cEq rfl rfl ?_ | refine V_cNe rfl rfl ?_ | refine V_cB rfl rfl (fun _ => ?_) (fun _ => ?_) | refine O_gT' rfl ?_ | refine O_gU' rfl ?_ | refine O_gF' rfl rfl ?_ | refine O_gEq rfl ?_ | refine O_gNe rfl ?_ | refine O_gS rfl (fun _ => ?_) (fun _ => ?_) | refine V_fA rfl rfl ?_ | refine V_fAN rfl rfl ?_ | refine V_D rfl ?_ | refine D_step rfl ?_ | refine D_nil' ?_ | refine D_gT' rfl ?_ | refine D_gU' rfl ?_ | refine D_gF' rfl rfl ?_ | refine D_gS rfl (fun _ => ?_) (fun _ => ?_)
      exact ⟨hg0, hgr⟩
    · obtain ⟨v', st', k1, k2, k3⟩ := hg0.grow (bytes := 1) (src := byteCells s) (by simpa [byteCells] using hs) (by simp only [byteCells_length, roomLen, List.length_nil]; omega)
      repeat' first | refine O_step (hq _ rfl) ?_ | refine O_append rfl rfl hsrc (okEls_bytes _) (by decide) (by decide) k1 ?_ | refine O_stepL rfl ?_ | refine V_finRQ rfl rfl ?_ | refine V_O rfl ?_ | refine O_step rfl ?_ | refine O_nil' ?_ | refine V_cT rfl rfl ?_ | refine V_cF rfl rfl ?_ | refine V_cEq rfl rfl ?_ | refine V_cNe rfl rfl ?_ | refine V_cB rfl rfl (fun _ => ?_) (fun _ => ?_) | refine O_gT' rfl ?_ | refine O_gU' rfl ?_ | refine O_gF' rfl rfl ?_ | refine O_gEq rfl ?_ | refine O_gNe rfl ?_ | refine O_gS rfl (fun _ => ?_) (fun _ => ?_) | refine V_fA rfl rfl ?_ | refine V_fAN rfl rfl ?_ | refine V_D rfl ?_ | refine D_step rfl ?_ | refine D_nil' ?_ | refine D_gT' rfl ?_ | refine D_gU' rfl ?_ | refine D_gF' rfl rfl ?_ | refine D_gS rfl (fun _ => ?_) (fun _ => ?_)
      exact ⟨by simpa using k2, hgr.trans k3⟩
def putP (n u : Nat) (es : List (List PV)) (st : St) (v : PV) : EX → EC → St → Prop := fun x e' st' => x = .exit 0 ∧ ∃ (v' : PV) (u' : Nat) (pre : List UInt8), e' = .put 1 (.int .u64 u') (.put 5 v' .nil) ∧ AccT 1 st' v' (es ++ byteCells pre) ∧ Grow st v st' v' ∧ pre ++ [UInt8.ofNat u'] = putL n u ∧ u' < 128 ∧ pre.length ≤ n
theorem put_loopG : ∀ (n u : Nat) (es : List (List PV)) (e : EC) (st : St) (v : PV), u < 128 ^ (n + 1) → e.get 1 = some (.int .u64 u) → e.get 5 = some v → AccT 1 st v es → es.length + n ≤ 140000000000000 →
    V T (PE (putP n u es st v)) [.code (.loop lp_num_Put_0)] .normal e st := by
  intro n
  induction n with
  | zero =>
    intro u es e st v hu h1 h5 hacc hb
    refine V_less (.put 1 (.int .u64 u) (.put 5 v .nil)) (less_put h1 (less_put h5 less_nil)) (V_unroll ?_)
    repeat' first | refine V_O rfl ?_ | refine O_step rfl ?_ | refine O_nil' ?_ | refine V_cT rfl rfl ?_ | refine V_cF rfl rfl ?_ | refine V_cEq rfl rfl ?_ | refine V_cNe rfl rfl ?_ | refine V_cB rfl rfl (fun _ => ?_) (fun _ => ?_) | refine O_gT' rfl ?_ | refine O_gU' rfl ?_ | refine O_gF' rfl rfl ?_ | refine O_gEq rfl ?_ | refine O_gNe rfl ?_ | refine O_gS rfl (fun _ => ?_) (fun _ => ?_) | refine V_fA rfl rfl ?_ | refine V_fAN rfl rfl ?_ | refine V_D rfl ?_ | refine D_step rfl ?_ | refine D_nil' ?_ | refine D_gT' rfl ?_ | refine D_gU' rfl ?_ | refine D_gF' rfl rfl ?_ | refine D_gS rfl (fun _ => ?_) (fun _ => ?_)
    · rename_i h
      simp at h; omega
    · exact V_less (.put 1 (.int .u64 u) (.put 5 v .nil)) (less_put rfl (less_put rfl less_nil)) (V_endP rfl ⟨rfl, v, u, [], rfl, by simpa [byteCells] using hacc, .refl _ _, rfl, by simpa using hu, by simp⟩)
  | succ n ih =>
    intro u es e st v hu h1 h5 hacc hb
    refine V_less (.put 1 (.int .u64 u) (.put 5 v .nil)) (less_put h1 (less_put h5 less_nil)) (V_unroll ?_)
    repeat' first | refine V_O rfl ?_ | refine O_step rfl ?_ | refine O_nil' ?_ | refine V_cT rfl rfl ?_ | refine V_cF rfl rfl ?_ | refine V_cEq rfl rfl ?_ | refine V_cNe rfl rfl ?_ | refine V_cB rfl rfl (fun _ => ?_) (fun _ => ?_) | refine O_gT' rfl ?_ | refine O_gU' rfl ?_ | refine O_gF' rfl rfl ?_ | refine O_gEq rfl ?_ | refine O_gNe rfl ?_ | refine O_gS rfl (fun _ => ?_) (fun _ => ?_) | refine V_fA rfl rfl ?_ | refine V_fAN rfl rfl ?_ | refine V_D rfl ?_ | refine D_step rfl ?_ | refine D_nil' ?_ | refine D_gT' rfl ?_ | refine D_gU' rfl ?_ | refine D_gF' rfl rfl ?_ | refine D_gS rfl (fun _ => ?_) (fun _ => ?_)
    · rename_i h
      have hge : ¬ u < 128 := by simp at h; omega
      obtain ⟨v', st', k1, k2, k3⟩ := hacc.grow (bytes := 1) (src := [[.int .u8 (IntKind.u8.wrap ((BitVec.ofInt 8 (IntKind.u8.wrap (u : Int)) ||| BitVec.ofInt 8 128).toNat : Int))]]) (by simp) (by simp [roomLen]; omega)
      refine O_append rfl rfl rfl rfl (by decide) (by decide) k1 ?_
      repeat' first | refine V_O rfl ?_ | refine O_step rfl ?_ | refine O_nil' ?_ | refine V_cT rfl rfl ?_ | refine V_cF rfl rfl ?_ | refine V_cEq rfl rfl ?_ | refine V_cNe rfl rfl ?_ | refine V_cB rfl rfl (fun _ => ?_) (fun _ => ?_) | refine O_gT' rfl ?_ | refine O_gU' rfl ?_ | refine O_gF' rfl rfl ?_ | refine O_gEq rfl ?_ | refine O_gNe rfl ?_ | refine O_gS rfl (fun _ => ?_) (fun _ => ?_) | refine V_fA rfl rfl ?_ | refine V_fAN rfl rfl ?_ | refine V_D rfl ?_ | refine D_step rfl ?_ | refine D_nil' ?_ | refine D_gT' rfl ?_ | refine D_gU' rfl ?_ | refine D_gF' rfl rfl ?_ | refine D_gS rfl (fun _ => ?_) (fun _ => ?_)
      refine V_monoP (ih (u / 128) _ _ _ v' (by rw [Nat.pow_succ] at hu; omega) (by
        show some (PV.int .u64 (Int.fdiv (u : Int) (2 ^ (min (7 : Int).toNat IntKind.u64.bits)))) = _
        rw [shr7]) rfl k2 (by simp; omega)) ?_
      rintro x e' st'' ⟨hx, v'', u', pre, he, hA, hG, hpre, hu', hlen⟩
      refine ⟨hx, v'', u', UInt8.ofNat (u % 128 + 128) :: pre, he, ?_, k3.trans hG, ?_, hu', by simp; omega⟩
      · rw [or128] at hA
        simpa [byteCells] using hA
      · simp only [putL, if_neg hge, List.cons_append, hpre]
    · rename_i h
      have hlt : u < 128 := by simp at h; omega
      exact V_less (.put 1 (.int .u64 u) (.put 5 v .nil)) (less_put rfl (less_put rfl less_nil)) (V_endP rfl ⟨rfl, v, u, [], rfl, by simpa [byteCells] using hacc, .refl _ _, by simp [putL, hlt], hlt, by simp⟩)
theorem putG {st : St} {b : PV} {s : List UInt8} (hbn : st.base = st.next) (hv : RB st b s) (hs : s.length ≤ 100000000000000) (u : Nat) (hu : u < 18446744073709551616) :
    ∃ v' st', T.R (.raw n_num_Put [b, .int .u64 u] st v' st') ∧ AccT 1 st' v' (byteCells (s ++ putL 9 u)) ∧ Grow st .nilSl st' v' := by
  have hv0 : RB ⟨st.next, st.next, st.toks⟩ b s := hv.keep (Nat.le_refl _) (fun _ _ => rfl)
  obtain ⟨v1, st1, h1, h2, h3⟩ := cloneG hv0 (by omega)
  have hgr : Grow st .nilSl ⟨st.base, st1.next, st1.toks⟩ v1 := ⟨rfl, h3.2.1, h3.2.2.1, h3.2.2.2⟩
  have hacc : AccT 1 ⟨st.base, st1.next, st1.toks⟩ v1 (byteCells s) := h2
  refine raw_VQ rfl rfl ?_
  repeat' first | refine O_rawAll h1 h3.1 rfl rfl ?_ | refine V_O rfl ?_ | refine O_step rfl ?_ | refine O_nil' ?_ | refine V_cT rfl rfl ?_ | refine V_cF rfl rfl ?_ | refine V_cEq rfl rfl ?_ | refine V_cNe rfl rfl ?_ | refine V_cB rfl rfl (fun _ => ?_) (fun _ => ?_) | refine O_gT' rfl ?_ | refine O_gU' rfl ?_ | refine O_gF' rfl rfl ?_ | refine O_gEq rfl ?_ | refine O_gNe rfl ?_ | refine O_gS rfl (fun _ => ?_) (fun _ => ?_) | refine V_fA rfl rfl ?_ | refine V_fAN rfl rfl ?_ | refine V_D rfl ?_ | refine D_step rfl ?_ | refine D_nil' ?_ | refine D_gT' rfl ?_ | refine D_gU' rfl ?_ | refine D_gF' rfl rfl ?_ | refine D_gS rfl (fun _ => ?_) (fun _ => ?_)
  refine V_cutA rfl (put_loopG 9 u (byteCells s) _ _ v1 (by omega) rfl rfl hacc (by rw [byteCells_length]; omega)) ?_
  rintro x e' st' ⟨rfl, v', u', pre, rfl, hA, hG, hpre, hu', hlen⟩
  have hcell : [[PV.int .u8 (IntKind.u8.wrap (u' : Int))]] = byteCells [UInt8.ofNat u'] := by
    rw [wrap_u8]
    simp [byteCells]
  obtain ⟨w, st2, k1, k2, k3⟩ := hA.grow (bytes := 1) (src := [[.int .u8 (IntKind.u8.wrap (u' : Int))]]) (by simp) (by simp [roomLen, byteCells]; omega)
  repeat' first | refine O_append rfl rfl rfl rfl (by decide) (by decide) k1 ?_ | refine V_finRQ rfl rfl ?_ | refine V_O rfl ?_ | refine O_step rfl ?_ | refine O_nil' ?_ | refine V_cT rfl rfl ?_ | refine V_cF rfl rfl ?_ | refine V_cEq rfl rfl ?_ | refine V_cNe rfl rfl ?_ | refine V_cB rfl rfl (fun _ => ?_) (fun _ => ?_) | refine O_gT' rfl ?_ | refine O_gU' rfl ?_ | refine O_gF' rfl rfl ?_ | refine O_gEq rfl ?_ | refine O_gNe rfl ?_ | refine O_gS rfl (fun _ => ?_) (fun _ => ?_) | refine V_fA rfl rfl ?_ | refine V_fAN rfl rfl ?_ | refine V_D rfl ?_ | refine D_step rfl ?_ | refine D_nil' ?_ | refine D_gT' rfl ?_ | refine D_gU' rfl ?_ | refine D_gF' rfl rfl ?_ | refine D_gS rfl (fun _ => ?_) (fun _ => ?_)
  rw [hcell, ← byteCells_append, ← byteCells_append, List.append_assoc, hpre] at k2
  exact ⟨k2, hgr.trans (hG.trans k3)⟩
end Go.Proofs.YtfdebgebnkbagaaDoor
