/- codec.put, texts too. -/
import Derived.Test.YtfdebgebnkbagaaDoorPutV
import Derived.Test.YtfdebgebnkbagaaDoorAmZ
set_option linter.unusedVariables false
set_option linter.unusedSimpArgs false
namespace Go.Proofs.YtfdebgebnkbagaaDoor
open Go Go.AM Go.RowKit
theorem AccT_appendAny {st : St} {v : PV} {b : List UInt8} (h : AccT 1 st v (byteCells b)) (c : List UInt8) (hr : b.length + c.length ≤ 140737488355328) : ∃ v' st', appendTo st 1 1 v (byteCells c) = some (v', st') ∧ AccT 1 st' v' (byteCells (b ++ c)) ∧ Grow st v st' v' := by
  by_cases hc : c = []
  · subst hc
    refine ⟨v, st, appendTo_none ?_, by rw [List.append_nil]; exact h, .refl _ _⟩
    rcases h with ⟨rfl, _⟩ | ⟨t, g, rfl, _, _⟩
    · exact .inl rfl
    · exact .inr (.inr ⟨_, _, _, _, _, rfl⟩)
  · obtain ⟨v', st', k1, k2, k3⟩ := h.grow (bytes := 1) (src := byteCells c) (by simpa [byteCells] using hc) (by simp only [byteCells_length, roomLen]; omega)
    exact ⟨v', st', k1, by rw [byteCells_append]; exact k2, k3⟩
set_option maxHeartbeats 4000000 in
theorem put_text (n : Int) (s : List UInt8) (l : List Val) (p : PV) (hn : I64 n) (hs : s.length ≤ 140737488355328) (hp : LC l p) : PutOk (.mk 2 n s l) [.int .i64 2, .int .i64 n, .str s, p] := by
  intro st b bs hbn hA hlen
  obtain ⟨kb, hkd⟩ : ∃ kb, UInt8.ofNat ((2 : Int) % 256).toNat = kb := ⟨_, rfl⟩
  have hkb := wrap8' 2
  rw [hkd] at hkb
  have hpv : putV (.mk 2 n s l) = kb :: (putL 9 s.length ++ s) := by simp only [putV, hkd]; simp
  rw [hpv] at hlen ⊢
  simp only [List.length_cons, List.length_append] at hlen
  have hA1 := AccT_new hA (.var [.int .i64 2, .int .i64 n, .str s, p])
  have hG1 := Grow_new st b (.var [.int .i64 2, .int .i64 n, .str s, p])
  have hg1 : (st.new (.var [.int .i64 2, .int .i64 n, .str s, p])).get st.next = some (.var [.int .i64 2, .int .i64 n, .str s, p]) := St.get_new
  have hnx : (st.new (.var [.int .i64 2, .int .i64 n, .str s, p])).next = st.next + 1 := rfl
  have hbt : tokOf b ≠ some st.next := fun h => by have := AccT_lt hA h; omega
  generalize hS : st.new (.var [.int .i64 2, .int .i64 n, .str s, p]) = S1 at hA1 hG1 hg1 hnx
  obtain ⟨v2, S2, k1, hA2, hG2⟩ := AccT_appendAny hA1 [kb] (by simp; omega)
  have hg2 : S2.get st.next = some (.var [.int .i64 2, .int .i64 n, .str s, p]) := by rw [hG2.2.2.2 st.next (by omega) hbt]; exact hg1
  have hG02 := hG1.trans hG2
  have hrb2 : RB ⟨S2.next, S2.next, S2.toks⟩ v2 (bs ++ [kb]) := (AccT.rb (st := S2) hA2).keep (Nat.le_refl _) (fun _ _ => rfl)
  obtain ⟨v3, S3, h1, h2, h3⟩ := putG (st := ⟨S2.next, S2.next, S2.toks⟩) rfl hrb2 (by simp; omega) s.length (by omega)
  have hlt2 : st.next < S2.next := by have := hG2.2.1; omega
  have hA3 : AccT 1 ⟨S2.base, S3.next, S3.toks⟩ v3 (byteCells (bs ++ [kb] ++ putL 9 s.length)) := h2
  have hG3 : Grow S2 v2 ⟨S2.base, S3.next, S3.toks⟩ v3 := Grow_nil (st' := ⟨S2.base, S3.next, S3.toks⟩) ⟨rfl, h3.2.1, h3.2.2.1, h3.2.2.2⟩ h2 (by simp [byteCells, putL_ne])
  have hgB : (⟨S2.base, S3.next, S3.toks⟩ : St).get st.next = some (.var [.int .i64 2, .int .i64 n, .str s, p]) := (h3.2.2.2 st.next hlt2 (by simp [tokOf])).trans hg2
  have hnt3 : tokOf v3 ≠ some st.next := fun h => by
    obtain ⟨m, e1, e2⟩ := AccT.none_fresh (st := ⟨S2.next, S2.next, S2.toks⟩) (st' := S3) h3 h2 (by simp [byteCells, putL_ne])
    rw [h] at e1
    injection e1 with e1
    have : S2.next ≤ m := e2
    omega
  generalize hB : (⟨S2.base, S3.next, S3.toks⟩ : St) = SB at hA3 hG3 hgB
  have hSBn : st.next < SB.next := by have := hG3.2.1; omega
  obtain ⟨v4, SC, q1, q2, q3⟩ := AccT_appendAny hA3 s (by simp; omega)
  have hgC : SC.get st.next = some (.var [.int .i64 2, .int .i64 n, .str s, p]) := by rw [q3.2.2.2 st.next hSBn hnt3]; exact hgB
  have hall : ∀ t, t = S2 ∨ t = SB ∨ t = SC → t.get st.next = some (.var [.int .i64 2, .int .i64 n, .str s, p]) := fun t ht => by
    rcases ht with rfl | rfl | rfl
    · exact hg2
    · exact hgB
    · exact hgC
  have hwl : IntKind.u64.wrap (s.length : Int) = (s.length : Int) := by rw [wrap_u64]; omega
  rw [← hwl] at h1
  refine raw_VQ rfl rfl ?_
  repeat' first | refine O_append (src := byteCells [kb]) rfl rfl (by rw [← hkb]; rfl) (okEls_bytes _) (by decide) (by decide) (by subst hS; exact k1) ?_ | refine O_loadV rfl St.get_new rfl ?_ | refine O_loadV rfl hg2 rfl ?_ | refine V_M2 5 8 45 SB SC rfl rfl ?_ | refine M2_raw1 h1 h3.1 rfl rfl rfl hB ?_ | refine M2_append2 rfl (by decide) rfl rfl rfl (okEls_bytes _) (by decide) (by decide) q1 ?_ | refine M2_loadV rfl rfl (.inl rfl) rfl hall rfl ?_ | refine M2_loadV rfl rfl (.inr (.inl rfl)) rfl hall rfl ?_ | refine M2_step rfl rfl (.inl rfl) rfl rfl rfl ?_ | refine M2_step rfl rfl (.inr (.inl rfl)) rfl rfl rfl ?_ | refine M2_step rfl rfl (.inr (.inr rfl)) rfl rfl rfl ?_ | refine M2_nil ?_ | refine V_finRQ rfl rfl ?_ | refine O_step rfl ?_ | refine O_stepL rfl ?_ | refine V_O rfl ?_ | refine O_step rfl ?_ | refine O_nil' ?_ | refine V_cT rfl rfl ?_ | refine V_cF rfl rfl ?_ | refine V_cEq rfl rfl ?_ | refine V_cNe rfl rfl ?_ | refine V_cB rfl rfl (fun _ => ?_) (fun _ => ?_) | refine O_gT' rfl ?_ | refine O_gU' rfl ?_ | refine O_gF' rfl rfl ?_ | refine O_gEq rfl ?_ | refine O_gNe rfl ?_ | refine O_gS rfl (fun _ => ?_) (fun _ => ?_) | refine V_fA rfl rfl ?_ | refine V_fAN rfl rfl ?_ | refine V_D rfl ?_ | refine D_step rfl ?_ | refine D_nil' ?_ | refine D_gT' rfl ?_ | refine D_gU' rfl ?_ | refine D_gF' rfl rfl ?_ | refine D_gS rfl (fun _ => ?_) (fun _ => ?_)
  refine ⟨?_, hG02.trans (hG3.trans q3)⟩
  have : bs ++ kb :: (putL 9 s.length ++ s) = bs ++ [kb] ++ putL 9 s.length ++ s := by simp
  rw [this]
  exact q2
theorem put_all {v : Val} {cs : List PV} (hv : VC v cs) : PutOk v cs := by
  refine VC.ind (M := fun v cs => PutOk v cs) ?_ hv
  intro k n s l p hk hn hs hp ih
  by_cases h2 : k = 2
  · subst h2
    exact put_text n s l p hn hs hp
  · exact put_step k n s l p hk hn hs hp h2 ih
end Go.Proofs.YtfdebgebnkbagaaDoor
