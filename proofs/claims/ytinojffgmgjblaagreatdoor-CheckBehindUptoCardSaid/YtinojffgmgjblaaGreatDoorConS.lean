/- slices.Concat of two lists of steps. -/
import Derived.Test.YtinojffgmgjblaaGreatDoorStpD
import Derived.Test.YtinojffgmgjblaaGreatDoorAmZ
set_option linter.unusedVariables false
set_option linter.unusedSimpArgs false
namespace Go.Proofs.YtinojffgmgjblaaGreatDoor
open Go Go.AM Go.RowKit
def zStp : List PV := [.int .i64 0, .nilSl, .nilSl, .nilSl, .nilSl, .nilSl]
def gSt (n : Nat) : St := ⟨0, 1, [(0, .row 0 6 (List.replicate n zStp) true)]⟩
section
variable {Q : Post} {k : List Fr} {ρ : EC} {st : St} {l : List POp} {kill : List Nat}
theorem O_appendZ {d : Option Nat} {sz bytes : Nat} {z : List PV} {s x : Opd} {kk : IntKind} {n : Nat} (hs : s.get ρ = some .nilSl) (hx : x.get ρ = some (.int kk (n : Int))) (hz : z.length = sz) (h0 : 0 < n) (hr : n * bytes ≤ roomLen)
    (h : VO T Q l kill k (ρ.sets d (.osl st.next 0 0 n false)) (st.new (.row 0 sz (List.replicate n z) true))) : VO T Q (⟨d, none, .appendZ sz bytes z s x⟩ :: l) kill k ρ st := by
  refine O_stepL ?_ h
  simp only [stepL, hs, hx]
  rw [if_pos ⟨hz, by omega, by exact_mod_cast hr⟩]
  simp
end
theorem run_Grow {n : Nat} (h0 : 0 < n) (h : n ≤ 4194304) : T.R (.raw n_slices_Grow_api_Step [.nilSl, .int .i64 (n : Int)] ⟨0, 0, []⟩ (.osl 0 0 0 0 false) (gSt n)) := by
  have n0 : ¬ (n : Int) < 0 := by omega
  have e1 : PV.int .i64 (IntKind.i64.wrap ((n : Int) - IntKind.i64.wrap (((0 : Nat) : Int) - ((0 : Nat) : Int)))) = PV.int .i64 (n : Int) := int_is (by rw [wrap_i64, wrap_i64]; omega)
  have hpos : (0 : Int) < (n : Int) := by omega
  have hsl : sliceSl? (gSt n).get 6 none (some (.int .i64 ((0 : Nat) : Int))) none (.osl 0 0 0 n false) = some (.osl 0 0 0 0 false) := by
    have := slice_osl_hi (k := .i64) (look := (gSt n).get) (sz := 6) (t := 0) (g := 0) (off := 0) (len := n) (f := false) (lv := true) (hi := ((0 : Nat) : Int)) (es := List.replicate n zStp) rfl (by omega) (by omega)
    simpa using this
  refine raw_V rfl rfl ?_
  repeat' first | refine V_cHF rfl rfl n0 ?_ | refine O_is e1 rfl ?_ | refine V_cHY rfl rfl hpos ?_ | refine O_appendZ rfl rfl rfl h0 (by simp only [roomLen]; omega) ?_ | refine O_slice (.osl 0 0 0 0 false) rfl rfl rfl rfl hsl ?_ | refine V_finR rfl rfl ?_ | refine V_O rfl ?_ | refine O_step rfl ?_ | refine O_nil' ?_ | refine V_cT rfl rfl ?_ | refine V_cF rfl rfl ?_ | refine V_cEq rfl rfl ?_ | refine V_cNe rfl rfl ?_ | refine V_cB rfl rfl (fun _ => ?_) (fun _ => ?_) | refine O_gT' rfl ?_ | refine O_gU' rfl ?_ | refine O_gF' rfl rfl ?_ | refine O_gEq rfl ?_ | refine O_gNe rfl ?_ | refine O_gS rfl (fun _ => ?_) (fun _ => ?_) | refine V_fA rfl rfl ?_ | refine V_fAN rfl rfl ?_ | refine V_D rfl ?_ | refine D_step rfl ?_ | refine D_nil' ?_ | refine D_gT' rfl ?_ | refine D_gU' rfl ?_ | refine D_gF' rfl rfl ?_ | refine D_gS rfl (fun _ => ?_) (fun _ => ?_)
  rfl
theorem run_Grow0 : T.R (.raw n_slices_Grow_api_Step [.nilSl, .int .i64 0] ⟨0, 0, []⟩ .nilSl ⟨0, 0, []⟩) := by
  refine raw_V rfl rfl ?_
  repeat' first | refine V_finR rfl rfl ?_ | refine V_O rfl ?_ | refine O_step rfl ?_ | refine O_nil' ?_ | refine V_cT rfl rfl ?_ | refine V_cF rfl rfl ?_ | refine V_cEq rfl rfl ?_ | refine V_cNe rfl rfl ?_ | refine V_cB rfl rfl (fun _ => ?_) (fun _ => ?_) | refine O_gT' rfl ?_ | refine O_gU' rfl ?_ | refine O_gF' rfl rfl ?_ | refine O_gEq rfl ?_ | refine O_gNe rfl ?_ | refine O_gS rfl (fun _ => ?_) (fun _ => ?_) | refine V_fA rfl rfl ?_ | refine V_fAN rfl rfl ?_ | refine V_D rfl ?_ | refine D_step rfl ?_ | refine D_nil' ?_ | refine D_gT' rfl ?_ | refine D_gU' rfl ?_ | refine D_gF' rfl rfl ?_ | refine D_gS rfl (fun _ => ?_) (fun _ => ?_)
  rfl
theorem run_Concat {n : Nat} {p q : PV} {l m : List Stp} (hp : SL n p l) (hq : SL n q m) (hl : l.length ≤ 1048576) (hm : m.length ≤ 1048576) (f : Bool) : ∃ r, T.R (.call n_slices_Concat_api_Step [.sl [[p], [q]] f] r) ∧ SL n r (l ++ m) := by
  have plp := SL.pl hp
  have plq := SL.pl hq
  obtain ⟨lp1, lp2, lp3⟩ := hp.len
  obtain ⟨lq1, lq2, lq3⟩ := hq.len
  obtain ⟨xs, x1, x2, x3⟩ := hp.elems emptySt.get
  obtain ⟨ys, y1, y2, y3⟩ := hq.elems emptySt.get
  have el : ∀ (v : PV) (look look' : Nat → Option Tok) (zs : List (List PV)), Pl v → elemsOf look v = some zs → elemsOf look' v = some zs := fun v a b zs hv h => by
    cases hv with
    | nilSl => exact h
    | sl xs f _ => exact h
    | _ => first | exact h | cases h
  have okx : okEls 6 xs = true := by
    refine List.all_eq_true.2 fun cs hcs => ?_
    obtain ⟨j, hj⟩ := List.getElem?_of_mem hcs
    have hlt : j < l.length := by have := (List.getElem?_eq_some_iff.1 hj).1; omega
    have hc := x3 j l[j] cs (List.getElem?_eq_getElem hlt) hj
    simp [hc.len6]
    exact hc.one
  have oky : okEls 6 ys = true := by
    refine List.all_eq_true.2 fun cs hcs => ?_
    obtain ⟨j, hj⟩ := List.getElem?_of_mem hcs
    have hlt : j < m.length := by have := (List.getElem?_eq_some_iff.1 hj).1; omega
    have hc := y3 j m[j] cs (List.getElem?_eq_getElem hlt) hj
    simp [hc.len6]
    exact hc.one
  have plxy : ∀ cs ∈ xs ++ ys, ∀ c ∈ cs, Pl c := fun cs hcs => by
    rcases List.mem_append.1 hcs with hcs | hcs
    · obtain ⟨j, hj⟩ := List.getElem?_of_mem hcs
      have hlt : j < l.length := by have := (List.getElem?_eq_some_iff.1 hj).1; omega
      exact (x3 j l[j] cs (List.getElem?_eq_getElem hlt) hj).pl
    · obtain ⟨j, hj⟩ := List.getElem?_of_mem hcs
      have hlt : j < m.length := by have := (List.getElem?_eq_some_iff.1 hj).1; omega
      exact (y3 j m[j] cs (List.getElem?_eq_getElem hlt) hj).pl
  have all : ∀ (j : Nat) (a : Stp) (cs : List PV), (l ++ m)[j]? = some a → (xs ++ ys)[j]? = some cs → SC n a cs := fun j a cs h1 h2 => by
    by_cases hj : j < l.length
    · rw [List.getElem?_append_left hj] at h1
      rw [List.getElem?_append_left (by omega)] at h2
      exact x3 j a cs h1 h2
    · rw [List.getElem?_append_right (by omega)] at h1
      rw [List.getElem?_append_right (by omega), x2] at h2
      exact y3 _ a cs h1 h2
  have start : ∃ v0 st0, T.R (.raw n_slices_Grow_api_Step [.nilSl, .int .i64 ((l.length + m.length : Nat) : Int)] ⟨0, 0, []⟩ v0 st0) ∧ AccP 6 st0 v0 [] ∧ st0.base = 0 := by
    by_cases h0 : 0 < l.length + m.length
    · exact ⟨_, _, run_Grow h0 (by omega), .inr ⟨0, 0, List.replicate _ zStp, rfl, rfl, rfl, by simp⟩, rfl⟩
    · have e : l.length + m.length = 0 := by omega
      rw [e]
      exact ⟨_, _, run_Grow0, .inl ⟨rfl, rfl⟩, rfl⟩
  obtain ⟨v0, st0, g1, g2, g3⟩ := start
  obtain ⟨b0, n0, t0⟩ := st0
  obtain rfl : b0 = 0 := g3
  obtain ⟨v1, st1, a1, a2⟩ := g2.app (bytes := 128) (src := xs) (by simp only [List.length_nil, roomLen]; omega)
  obtain ⟨v2, st2, c1, c2⟩ := a2.app (bytes := 128) (src := ys) (by simp only [List.nil_append, roomLen]; omega)
  rw [List.nil_append] at c2
  obtain ⟨v3, d1, d2⟩ := c2.view plxy
  have srcp : ∀ st : St, srcOf st p = some xs := fun st => by
    have h := el p emptySt.get st.get xs plp x1
    unfold srcOf
    split
    · rename_i s; exact absurd x1 (by simp [elemsOf])
    · exact h
  have srcq : ∀ st : St, srcOf st q = some ys := fun st => by
    have h := el q emptySt.get st.get ys plq y1
    unfold srcOf
    split
    · rename_i s; exact absurd y1 (by simp [elemsOf])
    · exact h
  have e1 : PV.int .i64 (IntKind.i64.wrap ((0 : Int) + (l.length : Int))) = PV.int .i64 (l.length : Int) := int_is (by rw [wrap_i64]; omega)
  have e2 : PV.int .i64 (IntKind.i64.wrap ((l.length : Int) + (m.length : Int))) = PV.int .i64 ((l.length + m.length : Nat) : Int) := int_is (by rw [wrap_i64]; omega)
  have f1 : ¬ (l.length : Int) < 0 := by omega
  have f2 : ¬ ((l.length + m.length : Nat) : Int) < 0 := by omega
  have hres : ∃ r, T.R (.call n_slices_Concat_api_Step [.sl [[p], [q]] f] r) ∧ r = v3 := by
    refine call_VQ rfl rfl ?_
    repeat' first | refine O_lenO rfl lp1 lp2 ?_ | refine O_lenO rfl lq1 lq2 ?_ | refine O_is e1 rfl ?_ | refine O_is e2 rfl ?_ | refine V_cHF rfl rfl f1 ?_ | refine V_cHF rfl rfl f2 ?_ | refine O_rawAll g1 rfl rfl rfl ?_ | refine O_append rfl rfl (srcp _) okx (by decide) (by decide) a1 ?_ | refine O_append rfl rfl (srcq _) oky (by decide) (by decide) c1 ?_ | refine V_fin rfl rfl d1 rfl | refine V_loop rfl (V_unroll ?_) | refine V_O rfl ?_ | refine O_step rfl ?_ | refine O_nil' ?_ | refine V_cT rfl rfl ?_ | refine V_cF rfl rfl ?_ | refine V_cEq rfl rfl ?_ | refine V_cNe rfl rfl ?_ | refine V_cB rfl rfl (fun _ => ?_) (fun _ => ?_) | refine O_gT' rfl ?_ | refine O_gU' rfl ?_ | refine O_gF' rfl rfl ?_ | refine O_gEq rfl ?_ | refine O_gNe rfl ?_ | refine O_gS rfl (fun _ => ?_) (fun _ => ?_) | refine V_fA rfl rfl ?_ | refine V_fAN rfl rfl ?_ | refine V_D rfl ?_ | refine D_step rfl ?_ | refine D_nil' ?_ | refine D_gT' rfl ?_ | refine D_gU' rfl ?_ | refine D_gF' rfl rfl ?_ | refine D_gS rfl (fun _ => ?_) (fun _ => ?_)
  obtain ⟨r, h1, rfl⟩ := hres
  refine ⟨r, h1, ?_⟩
  rcases d2 with ⟨rfl, hnil⟩ | rfl
  · have : (l ++ m).length = 0 := by
      have := congrArg List.length hnil
      simp only [List.length_append, List.length_nil] at this ⊢
      omega
    exact .inl ⟨rfl, List.length_eq_zero_iff.1 this⟩
  · exact .inr ⟨_, false, rfl, by simp; omega, by simp [x2, y2], all⟩
end Go.Proofs.YtinojffgmgjblaaGreatDoor
