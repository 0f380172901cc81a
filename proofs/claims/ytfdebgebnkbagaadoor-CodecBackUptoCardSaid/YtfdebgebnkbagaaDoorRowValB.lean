/- Readings of values: a value's cells; how great it is; the bound of a reading's bulk. -/
import Derived.Test.YtfdebgebnkbagaaDoorRows
import Derived.Test.YtfdebgebnkbagaaDoorBackL
import Derived.Test.YtfdebgebnkbagaaDoorAmZ
set_option linter.unusedVariables false
set_option linter.unusedSimpArgs false
namespace Go.Proofs.YtfdebgebnkbagaaDoor
open Go Go.AM Go.RowKit
namespace bulks
theorem one_le {H : Type} (d : DataW H) : 1 ≤ Rows.uptoBulk d := by
  cases d with
  | lit l => cases l <;> simp [Rows.uptoBulk]
  | nil => simp [Rows.uptoBulk]
  | ptr d => simp [Rows.uptoBulk]
  | slice elems spare => simp [Rows.uptoBulk]
  | agg parts => simp [Rows.uptoBulk]
  | iface t d => simp [Rows.uptoBulk]
  | map entries => simp [Rows.uptoBulk]
  | held h => simp [Rows.uptoBulk]
theorem part_le {H : Type} {d : DataW H} : ∀ {l : List (DataW H)}, d ∈ l → Rows.uptoBulk d ≤ Rows.uptoBulkAll l
  | [], h => by cases h
  | x :: r, h => by
    simp only [Rows.uptoBulkAll]
    rcases List.mem_cons.1 h with e | e
    · subst e; omega
    · have := part_le e; omega
theorem length_le {H : Type} : ∀ (l : List (DataW H)), l.length ≤ Rows.uptoBulkAll l
  | [] => by simp [Rows.uptoBulkAll]
  | x :: r => by have := length_le r; have := one_le x; simp only [Rows.uptoBulkAll, List.length_cons]; omega
theorem sum_le {H : Type} : ∀ (l : List (DataW H)) (f : Nat → Val), (∀ (j : Nat) (d : DataW H), l[j]? = some d → sizeV (f j) ≤ Rows.uptoBulk d) → sizeVs ((List.range l.length).map f) ≤ Rows.uptoBulkAll l
  | [], f, h => by simp [sizeVs, Rows.uptoBulkAll]
  | x :: r, f, h => by
    have ih := sum_le r (fun j => f (j + 1)) (fun j d hj => h (j + 1) d hj)
    have h0 := h 0 x rfl
    rw [List.length_cons, List.range_succ_eq_map, List.map_cons, List.map_map]
    simp only [sizeVs, Rows.uptoBulkAll]
    have : (f ∘ Nat.succ) = fun j => f (j + 1) := rfl
    rw [this]
    omega
end bulks
theorem i64_of {n : Int} (h : IntKind.i64.min ≤ n ∧ n ≤ IntKind.i64.max) : I64 n := by
  have h1 : IntKind.i64.min = -9223372036854775808 := rfl
  have h2 : IntKind.i64.max = 9223372036854775807 := rfl
  rw [h1, h2] at h
  exact h
theorem lc_of {H : Type} {d : DataW H} {q : PV} (h : TV Tryd.prog 22 d [q]) (hb : Rows.uptoBulk d ≤ 1048577) (ih : ∀ (e : DataW H) (cs : List PV), Rows.uptoBulk e < Rows.uptoBulk d → TV Tryd.prog 30 e cs → ∃ v, VC v cs ∧ sizeV v ≤ Rows.uptoBulk e) : ∃ l, LC l q ∧ l.length ≤ 1048576 ∧ sizeVs l + 1 ≤ Rows.uptoBulk d := by
  rcases tv_slice Tryd.underlying22 (of_decide_eq_true (by kernel_rfl)) h with ⟨rfl, e0⟩ | ⟨dl, rest, xs, full, rfl, e0, hlen, _, _, helems⟩
  · injection e0 with e0
    subst e0
    exact ⟨[], .inl ⟨rfl, rfl⟩, by simp, by simp [sizeVs, Rows.uptoBulk]⟩
  · injection e0 with e0
    subst e0
    have hbl := bulks.length_le dl
    simp only [Rows.uptoBulk] at hb ih ⊢
    have hx : ∀ j : Nat, ∃ v, (∀ cs, xs[j]? = some cs → VC v cs) ∧ ∀ d, dl[j]? = some d → sizeV v ≤ Rows.uptoBulk d := fun j => by
      cases hj : xs[j]? with
      | none =>
        refine ⟨.mk 0 0 [] [], ⟨fun cs h => (by cases h), fun d hd => ?_⟩⟩
        have := bulks.one_le d
        simp [sizeV, sizeVs]
        omega
      | some cs =>
        have hlt : j < dl.length := by have := (List.getElem?_eq_some_iff.1 hj).1; omega
        have hm : dl[j] ∈ dl := List.getElem_mem hlt
        have := bulks.part_le hm
        obtain ⟨v, hv, hs⟩ := ih dl[j] cs (by omega) (helems j _ cs (List.getElem?_eq_getElem hlt) hj)
        refine ⟨v, ⟨fun cs' h => by injection h with h; subst h; exact hv, fun d hd => ?_⟩⟩
        rw [List.getElem?_eq_getElem hlt] at hd
        injection hd with hd
        subst hd
        exact hs
    obtain ⟨f, hf⟩ := Classical.axiomOfChoice hx
    have hsum := bulks.sum_le dl f (fun j d hd => (hf j).2 d hd)
    refine ⟨(List.range xs.length).map f, .inr ⟨xs, full, rfl, by simp; omega, by simp, fun j v cs hj hc => ?_⟩, by simp; omega, by rw [hlen]; omega⟩
    have hlt := (List.getElem?_eq_some_iff.1 hc).1
    rw [List.getElem?_map, List.getElem?_range hlt] at hj
    simp only [Option.map_some, Option.some.injEq] at hj
    subst hj
    exact (hf j).1 cs hc
theorem vc_of {H : Type} : ∀ (n : Nat) (d : DataW H) (qs : List PV), Rows.uptoBulk d ≤ n → n ≤ 1048577 → TV Tryd.prog 30 d qs → ∃ v, VC v qs ∧ sizeV v ≤ Rows.uptoBulk d := by
  intro n
  induction n with
  | zero =>
    intro d qs h _ _
    have := bulks.one_le d
    omega
  | succ n ih =>
    intro d qs h hn hv
    obtain ⟨ds, qss, rfl, rfl, hl1, hl2, hf⟩ := tv_struct Tryd.underlying30 hv
    simp only [Rows.uptoBulk] at h ⊢
    match ds, qss, hl1, hl2, hf, h with
    | [d0, d1, d2, d3], [q0, q1, q2, q3], hl1, hl2, hf, h =>
      have f0 := hf 0 _ d0 q0 rfl rfl rfl
      have f1 := hf 1 _ d1 q1 rfl rfl rfl
      have f2 := hf 2 _ d2 q2 rfl rfl rfl
      have f3 := hf 3 _ d3 q3 rfl rfl rfl
      obtain ⟨k, _, rfl, hk⟩ := tv_int Tryd.underlying3 f0
      obtain ⟨m, _, rfl, hm⟩ := tv_int Tryd.underlying2 f1
      obtain ⟨s, rfl, rfl, _⟩ := tv_str Tryd.underlying9 f2
      simp only [Rows.uptoBulkAll] at h ⊢
      have hs : Rows.uptoBulk (DataW.lit (H := H) (.string s)) = s.length + 1 := by simp [Rows.uptoBulk]
      have h3 : ∃ q, q3 = [q] := by
        rcases tv_slice Tryd.underlying22 (of_decide_eq_true (by kernel_rfl)) f3 with ⟨_, e⟩ | ⟨_, _, _, _, _, e, _⟩
        · exact ⟨_, e⟩
        · exact ⟨_, e⟩
      obtain ⟨q, rfl⟩ := h3
      obtain ⟨l, hl, _, hls⟩ := lc_of f3 (by omega) (fun e cs he hv => ih e cs (by omega) (by omega) hv)
      have o0 := bulks.one_le d0
      have o1 := bulks.one_le d1
      refine ⟨.mk k m s l, hl.vc (i64_of hk) (i64_of hm) (by omega), ?_⟩
      simp only [sizeV]
      omega
theorem lc_arg {H : Type} {d : DataW H} {q : PV} (h : TV Tryd.prog 22 d [q]) (hb : Rows.uptoBulk d ≤ 1048576) : ∃ l, LC l q ∧ l.length ≤ 1048576 ∧ sizeVs l + 1 ≤ Rows.uptoBulk d :=
  lc_of h (by omega) (fun e cs he hv => vc_of _ e cs (Nat.le_refl _) (by omega) hv)
theorem vc_arg {H : Type} {d : DataW H} {q : PV} (h : AV Tryd.prog 30 d q) (hb : Rows.uptoBulk d ≤ 1048576) : ∃ v cs, q = .agg cs ∧ VC v cs ∧ sizeV v ≤ Rows.uptoBulk d := by
  obtain ⟨qs, rfl, hv⟩ := av_agg (by kernel_rfl) h
  obtain ⟨v, h1, h2⟩ := vc_of _ d qs (Nat.le_refl _) (by omega) hv
  exact ⟨v, qs, rfl, h1, h2⟩
end Go.Proofs.YtfdebgebnkbagaaDoor
