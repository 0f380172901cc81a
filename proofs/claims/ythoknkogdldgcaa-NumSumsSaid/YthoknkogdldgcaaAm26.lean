/- AM26: the arguments of a row; reading again behind the call. -/
import Derived.Test.YthoknkogdldgcaaAm25
set_option linter.unusedVariables false
set_option linter.unusedSimpArgs false
namespace Go.AM
open Go.RowKit Go.ChangeShapes Go.WideShapes Go.ChangeAt

def isAggT (P : Program) (t : TypeId) : Bool := match P.underlying t with
  | some (.struct _) => true
  | some (.array _ _) => true
  | _ => false
/-- An argument's plain value. -/
def AV {H : Type} (P : Program) (t : TypeId) (d : DataW H) (q : PV) : Prop :=
  if isAggT P t = true then ∃ qs, q = .agg qs ∧ TV P t d qs else TV P t d [q]
def AVs {H : Type} (P : Program) : List TypeId → List (DataW H) → List PV → Prop
  | [], [], [] => True
  | t :: ts, d :: ds, q :: qs => AV P t d q ∧ AVs P ts ds qs
  | _, _, _ => False

section
variable {H : Type} {enc : TypeId × Value → H} {P : Program} {W : World}

theorem cells_of_cell {v : Value} (h : ∀ cs, v ≠ .agg cs) : v.cells.toList = [v] := by
  cases v <;> first | rfl | (rename_i cs; exact (h cs rfl).elim)

theorem arg_av (hl : laidOutB P = true) {r : Reach} {base : Nat} {t : TypeId} (ht : t < P.types.size) {v : Value} {d : DataW H} {ps : List MemPlace} (hval : Value.okWide P W r base t v) (hd : DataW.Trod enc P W 0 (fun _ => true) true t v d ps) :
    ∃ q, Rep noG (fun _ => False) W v q ∧ AV P t d q := by
  obtain ⟨fuel, hf⟩ := hd
  obtain ⟨qs, hq1, hq2⟩ := trod_tv hl fuel t _ d ps ht hf
  unfold AV
  by_cases hg : isAggT P t = true
  · simp only [if_pos hg]
    have : ∃ cs, v = .agg cs := by
      unfold Value.okWide at hval
      unfold isAggT at hg
      split at hg
      · rename_i fs hu; rw [hu] at hval; obtain ⟨cs, h1, _⟩ := hval; exact ⟨cs, h1⟩
      · rename_i m e hu; rw [hu] at hval; obtain ⟨cs, h1, _⟩ := hval; exact ⟨cs, h1⟩
      · cases hg
    obtain ⟨cs, rfl⟩ := this
    refine ⟨.agg qs, .agg qs cs (by have := hq1.1; simp [Value.cells] at this; omega) (fun i c hc => ?_), qs, rfl, hq2⟩
    have hlt : i < cs.size := by have := (List.getElem?_eq_some_iff.1 hc).1; have h2 := hq1.1; simp [Value.cells] at h2; omega
    refine hq1.2 i _ c ?_ hc
    simp [Value.cells, Array.getD_eq_getD_getElem?, Array.getElem?_eq_getElem hlt, hlt]
  · simp only [if_neg hg]
    have hna : ∀ cs, v ≠ .agg cs := by
      rintro cs rfl
      have hc : Cell.okWide P W r base t (.agg cs) := by
        unfold Value.okWide at hval
        unfold isAggT at hg
        split at hval
        · rename_i fs hu; rw [hu] at hg; exact (hg rfl).elim
        · rename_i m e hu; rw [hu] at hg; exact (hg rfl).elim
        · exact hval
      unfold Cell.okWide at hc
      split at hc <;> first | (unfold Cell.ok at hc; split at hc <;> simp_all) | simp_all
    rw [cells_of_cell hna] at hq1
    match qs, hq1, hq2 with
    | [q], hq1, hq2 => exact ⟨q, hq1.2 0 v q rfl rfl, hq2⟩
    | [], hq1, _ => exact absurd hq1.1 (by simp)
    | _ :: _ :: _, hq1, _ => exact absurd hq1.1 (by simp)

theorem args_av (hl : laidOutB P = true) {r : Reach} {base : Nat} : ∀ {ts : List TypeId} {vs : List Value} {ds : List (DataW H)} {ps : List MemPlace}, (∀ t ∈ ts, t < P.types.size) →
    (∀ (j : Nat) (t : TypeId) (v : Value), ts[j]? = some t → vs[j]? = some v → Value.okWide P W r base t v) → DataW.TrodAll enc P W 0 (fun _ => true) true ts vs ds ps →
    ∃ qs : List PV, qs.length = vs.length ∧ (∀ (i : Nat) (v : Value) (q : PV), vs[i]? = some v → qs[i]? = some q → Rep noG (fun _ => False) W v q) ∧ AVs P ts ds qs
  | [], vs, ds, ps, ht, hv, h => by
    obtain ⟨rfl, rfl, rfl⟩ := trodAll_nil h
    exact ⟨[], rfl, fun i v q h => by simp at h, trivial⟩
  | t :: ts, vs, ds, ps, ht, hv, h => by
    obtain ⟨v, vs', d, ds', p, q, rfl, rfl, rfl, h1, h2⟩ := trodAll_cons h
    obtain ⟨x, hx1, hx2⟩ := arg_av hl (ht t (by simp)) (hv 0 t v rfl rfl) h1
    obtain ⟨xs, k1, k2, k3⟩ := args_av hl (ts := ts) (vs := vs') (fun t h => ht t (by simp [h])) (fun j t v hj hj' => hv (j + 1) t v (by simpa using hj) (by simpa using hj')) h2
    exact ⟨x :: xs, by simp [k1], fun i v q hi hq => by
      cases i with
      | zero => simp at hi hq; subst hi hq; exact hx1
      | succ i => exact k2 i v q (by simpa using hi) (by simpa using hq), hx2, k3⟩

/-- Behind the call the arguments read as they did. -/
theorem reread (hl : laidOutB P = true) {W' : World} (hb : Below W.heap.size W W') : ∀ {ts : List TypeId} {vs : List Value} {ds : List (DataW H)} {ps : List MemPlace}, (ts.all fun t => P.readableRec t && decide (t < P.types.size)) = true →
    DataW.TrodAll enc P W 0 (fun _ => true) true ts vs ds ps → (∀ x ∈ ps, x.block < W.heap.size) → DataW.TrodAll enc P W' 0 (fun b => decide (b < W.heap.size)) true ts vs ds ps
  | [], vs, ds, ps, ht, h, hlt => by
    obtain ⟨rfl, rfl, rfl⟩ := trodAll_nil h
    exact trodAll_mk0
  | t :: ts, vs, ds, ps, ht, h, hlt => by
    obtain ⟨v, vs', d, ds', p, q, rfl, rfl, rfl, h1, h2⟩ := trodAll_cons h
    simp only [List.all_cons, Bool.and_eq_true, decide_eq_true_eq] at ht
    exact trodAll_cons_mk (Below.trod hl ht.1.1 ht.1.2 h1 hb (fun x hx => hlt x (by simp [hx]))) (reread hl hb ht.2 h2 (fun x hx => hlt x (by simp [hx])))

/-- A law's call: true; the arguments read as they did. -/
theorem law_call {f : FuncId} {args : Array Value} {qs : List PV} (hs : SemCall P f qs (.bool true)) (hl : qs.length = args.size) (hr : ∀ (i : Nat) (v : Value) (q : PV), args.toList[i]? = some v → qs[i]? = some q → Rep noG (fun _ => False) W v q) :
    Calls P f args W (fun e W' => e = .returned (.bool true) ∧ Below W.heap.size W W') := by
  refine (hs.2 (fun _ => False) W args (fun b h => h.elim) hl.symm (fun i c hc => ?_)).mono fun e W' ⟨u, he, hb, hu⟩ => ?_
  · have hlt : i < args.size := by have := (List.getElem?_eq_some_iff.1 hc).1; omega
    refine hr i _ c ?_ hc
    rw [Array.getElem?_toList, Array.getD_eq_getD_getElem?, Array.getElem?_eq_getElem hlt]
    rfl
  · subst he
    cases hu
    exact ⟨rfl, hb⟩

/-! ### What plain values of a type look like -/
theorem av_cons {t : TypeId} {ts : List TypeId} {ds : List (DataW H)} {qs : List PV} (h : AVs P (t :: ts) ds qs) : ∃ d ds' q qs', ds = d :: ds' ∧ qs = q :: qs' ∧ AV P t d q ∧ AVs P ts ds' qs' := by
  match ds, qs, h with
  | d :: ds', q :: qs', h => exact ⟨d, ds', q, qs', rfl, rfl, h.1, h.2⟩
theorem av_nil {ds : List (DataW H)} {qs : List PV} (h : AVs P [] ds qs) : ds = [] ∧ qs = [] := by
  match ds, qs, h with
  | [], [], _ => exact ⟨rfl, rfl⟩
theorem av_of_tv {t : TypeId} {d : DataW H} {q : PV} (hg : isAggT P t = false) (h : AV P t d q) : TV P t d [q] := by
  unfold AV at h
  rwa [hg, if_neg (by simp)] at h
theorem av_agg {t : TypeId} {d : DataW H} {q : PV} (hg : isAggT P t = true) (h : AV P t d q) : ∃ qs, q = .agg qs ∧ TV P t d qs := by
  unfold AV at h
  rwa [if_pos hg] at h
theorem tv_int {t : TypeId} {k : IntKind} {d : DataW H} {qs : List PV} (hu : P.underlying t = some (.int k)) (h : TV P t d qs) : ∃ n, d = .lit (.int k n) ∧ qs = [.int k n] ∧ k.min ≤ n ∧ n ≤ k.max := by
  cases h with
  | @int _ k' n ht hw =>
    rw [hu] at ht; injection ht with ht; injection ht with ht; subst ht
    have : k.min ≤ n ∧ n ≤ k.max := by simpa [Lit.wf] using hw
    exact ⟨n, rfl, rfl, this.1, this.2⟩
  | other h1 h2 => exact absurd hu (h2 k)
  | _ => simp_all
theorem tv_bool {t : TypeId} {d : DataW H} {qs : List PV} (hu : P.underlying t = some .bool) (h : TV P t d qs) : ∃ b, d = .lit (.bool b) ∧ qs = [.bool b] := by
  cases h with
  | bool ht => exact ⟨_, rfl, rfl⟩
  | other h1 => exact absurd hu h1
  | _ => simp_all
theorem tv_str {t : TypeId} {d : DataW H} {qs : List PV} (hu : P.underlying t = some .string) (h : TV P t d qs) : ∃ s, d = .lit (.string s) ∧ qs = [.str s] ∧ s.length ≤ maxLen := by
  cases h with
  | str ht hs => exact ⟨_, rfl, rfl, hs⟩
  | other h1 h2 h3 => exact absurd hu h3
  | _ => simp_all
theorem tv_slice {t e : TypeId} {d : DataW H} {qs : List PV} (hu : P.underlying t = some (.slice e)) (hp : 0 < P.cellsOf e) (h : TV P t d qs) : (d = .nil ∧ qs = [.nilSl]) ∨ ∃ (ds rest : List (DataW H)) (xs : List (List PV)) (full : Bool), d = .slice ds rest ∧ qs = [.sl xs full] ∧ xs.length = ds.length ∧ xs.length ≤ maxLen ∧
    (∀ (j : Nat) (cs : List PV), xs[j]? = some cs → cs.length = P.cellsOf e) ∧ ∀ (j : Nat) (d : DataW H) (cs : List PV), ds[j]? = some d → xs[j]? = some cs → TV P e d cs := by
  cases h with
  | nilSl ht => exact .inl ⟨rfl, rfl⟩
  | sl ht hp' hl hm hc h =>
    rw [hu] at ht; injection ht with ht; injection ht with ht; subst ht
    exact .inr ⟨_, _, _, _, rfl, rfl, hl, hm, hc, h⟩
  | other h1 h2 h3 h4 h5 => exact absurd hu (h5 e hp)
  | _ => simp_all
theorem tv_struct {t : TypeId} {fs : Array Field} {d : DataW H} {qs : List PV} (hu : P.underlying t = some (.struct fs)) (h : TV P t d qs) : ∃ (ds : List (DataW H)) (qss : List (List PV)), d = .agg ds ∧ qs = qss.flatten ∧ ds.length = fs.size ∧ qss.length = fs.size ∧
    ∀ (j : Nat) (f : Field) (d : DataW H) (q : List PV), fs[j]? = some f → ds[j]? = some d → qss[j]? = some q → TV P f.type d q := by
  cases h with
  | struct ht hd hq h =>
    rw [hu] at ht; injection ht with ht; injection ht with ht; subst ht
    exact ⟨_, _, rfl, rfl, hd, hq, h⟩
  | other h1 h2 h3 h4 h5 h6 => exact absurd hu (h6 fs)
  | _ => simp_all
/-- A slice of integers. -/
theorem ints_of {e : TypeId} {k : IntKind} (hu : P.underlying e = some (.int k)) : ∀ {ds : List (DataW H)} {xs : List (List PV)}, xs.length = ds.length → (∀ (j : Nat) (d : DataW H) (cs : List PV), ds[j]? = some d → xs[j]? = some cs → TV P e d cs) →
    ∃ ns : List Int, xs = ns.map (fun n => [.int k n]) ∧ ∀ n ∈ ns, k.min ≤ n ∧ n ≤ k.max
  | [], [], _, _ => ⟨[], rfl, fun n h => by cases h⟩
  | d :: ds, x :: xs, hl, h => by
    obtain ⟨n, _, rfl, hn⟩ := tv_int hu (h 0 d x rfl rfl)
    obtain ⟨ns, rfl, hns⟩ := ints_of hu (ds := ds) (xs := xs) (by simpa using hl) (fun j d cs h1 h2 => h (j + 1) d cs (by simpa using h1) (by simpa using h2))
    exact ⟨n :: ns, rfl, fun m hm => by
      rcases List.mem_cons.1 hm with rfl | hm
      · exact hn
      · exact hns m hm⟩
  | [], _ :: _, hl, _ => by simp at hl
  | _ :: _, [], hl, _ => by simp at hl
end
end Go.AM
