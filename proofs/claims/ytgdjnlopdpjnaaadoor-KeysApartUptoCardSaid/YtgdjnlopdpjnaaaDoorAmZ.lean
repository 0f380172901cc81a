/- The abstract machine: AM26: the arguments of a row; reading again behind the call. · AM27: the words of arithmetic; the table; plain equations. · AM28: loops told apart; rows of one's own that grow. · AM29: slices that are read; bytes. · AM30: lists in slices: read, grown, cut. · AM31: stepping through a drawn region with one loud operation. · AM32: entries without a Go body: bytes compared, found, counted. · AM33: a place of a row of one's own, read and written. · AM34: rows that are made and copied into. · AM35: bytes appended to a row of one's own, whatever its place; a variable written whole; the slice of an array. · AM36: calls that are handed what is one's own: what they leave alone. · AM37: a variable of one's own, read in a drawn region with one loud operation. · AM38: readings of byte slices. · AM39: drawn regions with two loud operations, the later of which looks at what the first answers: the steps. · AM40: steps whose answer is said otherwise. · AM41: a call that is handed what is one's own, which is no longer changed behind it. · AM42: calls and ends whose plain values need no word. · AM43: loops told by lists of temporaries. · AM44: entries without a body, over texts: where a byte stands, how often. · AM45: drawn regions with two stores that do not look at one another: the steps. · AM46: lists by a relation; loops whose turns leave nothing behind. · AM47: readings of lists, by a bound that goes down to all parts. · AM48: readings of lists, with what their parts weigh together. · AM49: bytes of one's own, or a literal's, that are appended to; calls that hand them on. · AM50: drawn regions with a chain of loud operations: the steps. · AM51: drawn regions with one loud operation and a variable boxed aside: the steps. -/
import Derived.Test.YtgdjnlopdpjnaaaDoorAmF
import Derived.Lib.Bytealg
import Derived.Lib.BytesEntry
set_option linter.unusedSectionVars false
set_option linter.unusedVariables false
set_option linter.unusedSimpArgs false
namespace Go.AM
open Go.RowKit Go.ChangeShapes Go.WideShapes Go.ChangeAt
def isAggT (P : Program) (t : TypeId) : Bool := match P.underlying t with
  | some (.struct _) => true
  | some (.array _ _) => true
  | _ => false
def AV {H : Type} (P : Program) (t : TypeId) (d : DataW H) (q : PV) : Prop :=
  if isAggT P t = true then ∃ qs, q = .agg qs ∧ TV P t d qs else TV P t d [q]
def AVs {H : Type} (P : Program) : List TypeId → List (DataW H) → List PV → Prop
  | [], [], [] => True
  | t :: ts, d :: ds, q :: qs => AV P t d q ∧ AVs P ts ds qs
  | _, _, _ => False
section
variable {H : Type} {enc : TypeId × Value → H} {P : Program} {W : World}
theorem cells_of_cell {v : Value} (h : ∀ cs, v ≠ .agg cs) : v.cells.toList = [v] := by
  cases v <;> first | rfl | (rename_i cs; exact (h cs rfl).elim)
theorem arg_av (hl : laidOutB P = true) {r : Reach} {base : Nat} {t : TypeId} (ht : t < P.types.size) {v : Value} {d : DataW H} {ps : List MemPlace} (hval : Value.okWide P W r base t v) (hd : DataW.Trod enc P W 0 (fun _ => true) true t v d ps) :
    ∃ q, Rep noG (fun _ => False) W v q ∧ AV P t d q := by
  obtain ⟨fuel, hf⟩ := hd
  obtain ⟨qs, hq1, hq2⟩ := Ze9 hl fuel t _ d ps ht hf
  unfold AV
  by_cases hg : isAggT P t = true
  · simp only [if_pos hg]
    have : ∃ cs, v = .agg cs := by
      unfold Value.okWide at hval
      unfold isAggT at hg
      split at hg
      · rename_i fs hu; rw [hu] at hval; obtain ⟨cs, h1, _⟩ := hval; exact ⟨cs, h1⟩
      · rename_i m e hu; rw [hu] at hval; obtain ⟨cs, h1, _⟩ := hval; exact ⟨cs, h1⟩
      · cases hg
    obtain ⟨cs, rfl⟩ := this
    refine ⟨.agg qs, .agg qs cs (by have := hq1.1; simp [Value.cells] at this; omega) (fun i c hc => ?_), qs, rfl, hq2⟩
    have hlt : i < cs.size := by have := (List.getElem?_eq_some_iff.1 hc).1; have h2 := hq1.1; simp [Value.cells] at h2; omega
    refine hq1.2 i _ c ?_ hc
    simp [Value.cells, Array.getD_eq_getD_getElem?, Array.getElem?_eq_getElem hlt, hlt]
  · simp only [if_neg hg]
    have hna : ∀ cs, v ≠ .agg cs := by
      rintro cs rfl
      have hc : Cell.okWide P W r base t (.agg cs) := by
        unfold Value.okWide at hval
        unfold isAggT at hg
        split at hval
        · rename_i fs hu; rw [hu] at hg; exact (hg rfl).elim
        · rename_i m e hu; rw [hu] at hg; exact (hg rfl).elim
        · exact hval
      unfold Cell.okWide at hc
      split at hc <;> first | (unfold Cell.ok at hc; split at hc <;> simp_all) | simp_all
    rw [cells_of_cell hna] at hq1
    match qs, hq1, hq2 with
    | [q], hq1, hq2 => exact ⟨q, hq1.2 0 v q rfl rfl, hq2⟩
    | [], hq1, _ => exact absurd hq1.1 (by simp)
    | _ :: _ :: _, hq1, _ => exact absurd hq1.1 (by simp)
theorem args_av (hl : laidOutB P = true) {r : Reach} {base : Nat} : ∀ {ts : List TypeId} {vs : List Value} {ds : List (DataW H)} {ps : List MemPlace}, (∀ t ∈ ts, t < P.types.size) →
    (∀ (j : Nat) (t : TypeId) (v : Value), ts[j]? = some t → vs[j]? = some v → Value.okWide P W r base t v) → DataW.TrodAll enc P W 0 (fun _ => true) true ts vs ds ps →
    ∃ qs : List PV, qs.length = vs.length ∧ (∀ (i : Nat) (v : Value) (q : PV), vs[i]? = some v → qs[i]? = some q → Rep noG (fun _ => False) W v q) ∧ AVs P ts ds qs
  | [], vs, ds, ps, ht, hv, h => by
    obtain ⟨rfl, rfl, rfl⟩ := trodAll_nil h
    exact ⟨[], rfl, fun i v q h => by simp at h, trivial⟩
  | t :: ts, vs, ds, ps, ht, hv, h => by
    obtain ⟨v, vs', d, ds', p, q, rfl, rfl, rfl, h1, h2⟩ := trodAll_cons h
    obtain ⟨x, hx1, hx2⟩ := arg_av hl (ht t (by simp)) (hv 0 t v rfl rfl) h1
    obtain ⟨xs, k1, k2, k3⟩ := args_av hl (ts := ts) (vs := vs') (fun t h => ht t (by simp [h])) (fun j t v hj hj' => hv (j + 1) t v (by simpa using hj) (by simpa using hj')) h2
    exact ⟨x :: xs, by simp [k1], fun i v q hi hq => by
      cases i with
      | zero => simp at hi hq; subst hi hq; exact hx1
      | succ i => exact k2 i v q (by simpa using hi) (by simpa using hq), hx2, k3⟩
theorem reread (hl : laidOutB P = true) {W' : World} (hb : Below W.heap.size W W') : ∀ {ts : List TypeId} {vs : List Value} {ds : List (DataW H)} {ps : List MemPlace}, (ts.all fun t => P.readableRec t && decide (t < P.types.size)) = true →
    DataW.TrodAll enc P W 0 (fun _ => true) true ts vs ds ps → (∀ x ∈ ps, x.block < W.heap.size) → DataW.TrodAll enc P W' 0 (fun b => decide (b < W.heap.size)) true ts vs ds ps
  | [], vs, ds, ps, ht, h, hlt => by
    obtain ⟨rfl, rfl, rfl⟩ := trodAll_nil h
    exact trodAll_mk0
  | t :: ts, vs, ds, ps, ht, h, hlt => by
    obtain ⟨v, vs', d, ds', p, q, rfl, rfl, rfl, h1, h2⟩ := trodAll_cons h
    simp only [List.all_cons, Bool.and_eq_true, decide_eq_true_eq] at ht
    exact trodAll_cons_mk (Below.trod hl ht.1.1 ht.1.2 h1 hb (fun x hx => hlt x (by simp [hx]))) (reread hl hb ht.2 h2 (fun x hx => hlt x (by simp [hx])))
theorem law_call [Gl] {f : FuncId} {args : Array Value} {qs : List PV} (hs : Za3 P f qs (.bool true)) (hl : qs.length = args.size) (hr : ∀ (i : Nat) (v : Value) (q : PV), args.toList[i]? = some v → qs[i]? = some q → Rep noG (fun _ => False) W v q) (hg : Gl.ok W := by exact True.intro) :
    Calls P f args W (fun e W' => e = .returned (.bool true) ∧ Below W.heap.size W W') := by
  refine (hs.2 (fun _ => False) W args (fun b h => h.elim) hg hl.symm (fun i c hc => ?_)).mono fun e W' ⟨u, he, hb, hu⟩ => ?_
  · have hlt : i < args.size := by have := (List.getElem?_eq_some_iff.1 hc).1; omega
    refine hr i _ c ?_ hc
    rw [Array.getElem?_toList, Array.getD_eq_getD_getElem?, Array.getElem?_eq_getElem hlt]
    rfl
  · subst he
    cases hu
    exact ⟨rfl, hb⟩
theorem av_cons {t : TypeId} {ts : List TypeId} {ds : List (DataW H)} {qs : List PV} (h : AVs P (t :: ts) ds qs) : ∃ d ds' q qs', ds = d :: ds' ∧ qs = q :: qs' ∧ AV P t d q ∧ AVs P ts ds' qs' := by
  match ds, qs, h with
  | d :: ds', q :: qs', h => exact ⟨d, ds', q, qs', rfl, rfl, h.1, h.2⟩
theorem av_nil {ds : List (DataW H)} {qs : List PV} (h : AVs P [] ds qs) : ds = [] ∧ qs = [] := by
  match ds, qs, h with
  | [], [], _ => exact ⟨rfl, rfl⟩
theorem av_agg {t : TypeId} {d : DataW H} {q : PV} (hg : isAggT P t = true) (h : AV P t d q) : ∃ qs, q = .agg qs ∧ TV P t d qs := by
  unfold AV at h
  rwa [if_pos hg] at h
theorem Zgp {t : TypeId} {k : IntKind} {d : DataW H} {qs : List PV} (hu : P.underlying t = some (.int k)) (h : TV P t d qs) : ∃ n, d = .lit (.int k n) ∧ qs = [.int k n] ∧ k.min ≤ n ∧ n ≤ k.max := by
  cases h with
  | @int _ k' n ht hw =>
    rw [hu] at ht; injection ht with ht; injection ht with ht; subst ht
    have : k.min ≤ n ∧ n ≤ k.max := by simpa [Lit.wf] using hw
    exact ⟨n, rfl, rfl, this.1, this.2⟩
  | other h1 h2 => exact absurd hu (h2 k)
  | _ => simp_all
theorem tv_str {t : TypeId} {d : DataW H} {qs : List PV} (hu : P.underlying t = some .string) (h : TV P t d qs) : ∃ s, d = .lit (.string s) ∧ qs = [.str s] ∧ s.length ≤ maxLen := by
  cases h with
  | str ht hs => exact ⟨_, rfl, rfl, hs⟩
  | other h1 h2 h3 => exact absurd hu h3
  | _ => simp_all
theorem tv_slice {t e : TypeId} {d : DataW H} {qs : List PV} (hu : P.underlying t = some (.slice e)) (hp : 0 < P.cellsOf e) (h : TV P t d qs) : (d = .nil ∧ qs = [.nilSl]) ∨ ∃ (ds rest : List (DataW H)) (xs : List (List PV)) (full : Bool), d = .slice ds rest ∧ qs = [.sl xs full] ∧ xs.length = ds.length ∧ xs.length ≤ maxLen ∧
    (∀ (j : Nat) (cs : List PV), xs[j]? = some cs → cs.length = P.cellsOf e) ∧ ∀ (j : Nat) (d : DataW H) (cs : List PV), ds[j]? = some d → xs[j]? = some cs → TV P e d cs := by
  cases h with
  | nilSl ht => exact .inl ⟨rfl, rfl⟩
  | sl ht hp' hl hm hc h =>
    rw [hu] at ht; injection ht with ht; injection ht with ht; subst ht
    exact .inr ⟨_, _, _, _, rfl, rfl, hl, hm, hc, h⟩
  | other h1 h2 h3 h4 h5 => exact absurd hu (h5 e hp)
  | _ => simp_all
theorem Zab {t : TypeId} {fs : Array Field} {d : DataW H} {qs : List PV} (hu : P.underlying t = some (.struct fs)) (h : TV P t d qs) : ∃ (ds : List (DataW H)) (qss : List (List PV)), d = .agg ds ∧ qs = qss.flatten ∧ ds.length = fs.size ∧ qss.length = fs.size ∧
    ∀ (j : Nat) (f : Field) (d : DataW H) (q : List PV), fs[j]? = some f → ds[j]? = some d → qss[j]? = some q → TV P f.type d q := by
  cases h with
  | struct ht hd hq h =>
    rw [hu] at ht; injection ht with ht; injection ht with ht; subst ht
    exact ⟨_, _, rfl, rfl, hd, hq, h⟩
  | other h1 h2 h3 h4 h5 h6 => exact absurd hu (h6 fs)
  | _ => simp_all
end
end Go.AM
namespace Go.AM
open Go.RowKit
def lkF (f : Nat) : List (Nat × PF) → Option PF
  | [] => none
  | (k, p) :: r => match Nat.beq f k with
    | true => some p
    | false => lkF f r
theorem lkF_mem {f : Nat} {pf : PF} : ∀ {l : List (Nat × PF)}, lkF f l = some pf → (f, pf) ∈ l
  | [], h => by cases h
  | (k, p) :: r, h => by
    simp only [lkF] at h
    cases hb : Nat.beq f k with
    | true =>
      rw [hb] at h
      injection h with h
      subst h
      rw [Nat.eq_of_beq_eq_true hb]
      exact List.mem_cons_self
    | false => rw [hb] at h; exact List.mem_cons_of_mem _ (lkF_mem h)
theorem lkF_all {P : Program} {l : List (Nat × PF)} (h : ∀ x ∈ l, FnOK P x.1 x.2) : ∀ f pf, lkF f l = some pf → FnOK P f pf := fun f pf hf => h _ (lkF_mem hf)
theorem Z06 (x : Int) : IntKind.i64.wrap x = (x + 9223372036854775808) % 18446744073709551616 - 9223372036854775808 := by
  unfold IntKind.wrap
  simp [IntKind.bits, IntKind.signed, Int.bmod_def]
  omega
theorem Z0p (x : Int) : IntKind.u64.wrap x = x % 18446744073709551616 := by
  unfold IntKind.wrap
  simp [IntKind.bits, IntKind.signed]
theorem Z9b (x : Int) : IntKind.u8.wrap x = x % 256 := by
  unfold IntKind.wrap
  simp [IntKind.bits, IntKind.signed]
section
variable {T : Tb} {Q : Z59} {k : List Fr} {ρ : EC} {st : St} {l : List POp} {kill : List Nat}
theorem O_rem {d : Option Nat} {x y : Opd} {kk : IntKind} {a b : Int} (hx : x.get ρ = some (.int kk a)) (hy : y.get ρ = some (.int kk b)) (hb : decide (b = 0) = false) (h : VO T Q l kill k (ρ.sets d (.int kk (a.tmod b))) st) : VO T Q (⟨d, none, .bin .rem x y⟩ :: l) kill k ρ st :=
  Z0 (by simp only [Zg, get2, hx, hy, binOp?, Z95]; simp at hb; simp [hb]) h
theorem V_cNe {x : EX} {k' : List Fr} {c : Opd} {a b : PC} {α : Type} {y : α} [inst : Decidable (y = y)] (ha : Zi 200 k x = (.code (.cond c a b) :: k', .normal)) (hc : c.get ρ = some (.bool (!decide (y = y)))) (h1 : V T Q (.code b :: k') .normal ρ st) : V T Q k x ρ st := Ze ha (by rw [hc]; simp) h1
end
end Go.AM
namespace Go.AM
open Go.RowKit
def PE (P : EX → EC → St → Prop) : Z59 := fun x ρ st => ∃ e, Sub e ρ ∧ P x e st
section
variable {T : Tb} {Q : Z59} {k : List Fr} {ρ : EC} {st : St} {l : List POp} {kill : List Nat} {P : EX → EC → St → Prop}
theorem Z1y {x x' : EX} (ha : Zi 200 k x = ([], x')) (h : P x' ρ st) : V T (PE P) k x ρ st := V_end ha fun r hr => ⟨ρ, hr, h⟩
theorem V_cutP {c : PC} (h : V T (PE P) [.code c] .normal ρ st) (hk : ∀ x e st', P x e st' → V T Q k x e st') : V T Q (.code c :: k) .normal ρ st := fun r hr =>
  W_cut (h r hr) fun x ρ' st' ⟨e, he, hp⟩ => hk x e st' hp ρ' he
theorem Z55 {c : PC} {x : EX} {k' : List Fr} (ha : Zi 200 k' x = (.code c :: k, .normal)) (h : V T (PE P) [.code c] .normal ρ st) (hk : ∀ x e st', P x e st' → V T Q k x e st') : V T Q k' x ρ st := Z38 ha (V_cutP h hk)
theorem Zcb {P' : EX → EC → St → Prop} {x : EX} (h : V T (PE P) k x ρ st) (hP : ∀ x e st, P x e st → P' x e st) : V T (PE P') k x ρ st := fun r hr =>
  W_mono (fun x ρ st ⟨e, he, hp⟩ => ⟨e, he, hP x e st hp⟩) _ _ _ _ (h r hr)
theorem Z3u {sz bytes : Nat} {src : List (List PV)} (hne : src ≠ []) (hr : src.length * bytes ≤ Zs) : Z0b st sz bytes .nilSl src = some (.osl st.next 0 0 src.length false, st.new (.row 0 sz src true)) := by
  unfold Z0b
  rw [if_neg hne]
  simp only []
  rw [if_pos hr]
theorem Z6y {sz bytes : Nat} {xs src : List (List PV)} (hne : src ≠ []) (hr : (xs.length + src.length) * bytes ≤ Zs) (ha : Z0v sz xs = true) : Z0b st sz bytes (.sl xs true) src = some (.osl st.next 0 0 (xs.length + src.length) false, st.new (.row 0 sz (xs ++ src) true)) := by
  unfold Z0b
  rw [if_neg hne]
  simp only []
  rw [if_pos ⟨hr, ha⟩]
theorem Z84 {sz bytes t g : Nat} {es src : List (List PV)} (hne : src ≠ []) (hg : st.get t = some (.row g sz es true)) (hr : (es.length + src.length) * bytes ≤ Zs) : Z0b st sz bytes (.osl t g 0 es.length false) src = some (.osl t (g + 1) 0 (es.length + src.length) false, st.put t (.row (g + 1) sz (es ++ src) true)) := by
  unfold Z0b
  rw [if_neg hne]
  simp only [hg]
  rw [if_pos (by refine ⟨?_, ?_, ?_, hr⟩ <;> first | trivial | omega)]
  simp
theorem Z2a {sz bytes : Nat} {s : PV} (hs : s = .nilSl ∨ (∃ xs f, s = .sl xs f) ∨ ∃ t g off len f, s = .osl t g off len f) : Z0b st sz bytes s [] = some (s, st) := by
  unfold Z0b
  rw [if_pos rfl]
  rcases hs with rfl | ⟨xs, f, rfl⟩ | ⟨t, g, off, len, f, rfl⟩ <;> rfl
theorem Z02 {d : Option Nat} {sz bytes : Nat} {z : List PV} {s x : Opd} {p q r : PV} {src : List (List PV)} {st' : St} (hs : s.get ρ = some p) (hx : x.get ρ = some q) (hsrc : Z56 st q = some src) (hok : okEls sz src = true) (hsz : 0 < sz) (hby : 0 < bytes)
    (ha : Z0b st sz bytes p src = some (r, st')) (h : VO T Q l kill k (ρ.sets d r) st') : VO T Q (⟨d, none, .append sz bytes z s x⟩ :: l) kill k ρ st := by
  refine Z9 ?_ h
  simp only [Z4a, hs, hx, hsrc, Option.bind_some]
  rw [if_pos ⟨hok, hsz, hby⟩]
  exact ha
end
def Acc (sz : Nat) (st : St) (v : PV) (es : List (List PV)) : Prop := (v = .nilSl ∧ es = [] ∧ st = ⟨0, 0, []⟩) ∨ ∃ g, v = .osl 0 g 0 es.length false ∧ st = ⟨0, 1, [(0, .row g sz es true)]⟩
theorem Acc.append {sz bytes : Nat} {st : St} {v : PV} {es src : List (List PV)} (h : Acc sz st v es) (hne : src ≠ []) (hr : (es.length + src.length) * bytes ≤ Zs) : ∃ v' st', Z0b st sz bytes v src = some (v', st') ∧ Acc sz st' v' (es ++ src) := by
  rcases h with ⟨rfl, rfl, rfl⟩ | ⟨g, rfl, rfl⟩
  · exact ⟨_, _, Z3u hne (by simpa using hr), .inr ⟨0, by simp, rfl⟩⟩
  · refine ⟨_, _, Z84 (es := es) hne rfl hr, .inr ⟨g + 1, by simp, rfl⟩⟩
theorem Acc.view {sz : Nat} {st : St} {v : PV} {es : List (List PV)} (h : Acc sz st v es) (hp : ∀ cs ∈ es, ∀ c ∈ cs, Pl c) : View true st.get v (if es = [] ∧ st.next = 0 then .nilSl else .sl es false) := by
  rcases h with ⟨rfl, rfl, rfl⟩ | ⟨g, rfl, rfl⟩
  · exact .nilSl
  · rw [if_neg (by simp)]
    exact Z4n rfl (.inl rfl) rfl hp
end Go.AM
namespace Go.AM
open Go.RowKit
theorem Zgq {look : Nat → Option Tok} {sz : Nat} {k k' : IntKind} {lo hi : Int} {xs : List (List PV)} {f : Bool} (ha : Z0v sz xs = true) (h0 : 0 ≤ lo) (h1 : lo ≤ hi) (h2 : hi ≤ xs.length) :
    sliceSl? look sz (some (.int k lo)) (some (.int k' hi)) none (.sl xs f) = some (.sl ((xs.drop lo.toNat).take (hi.toNat - lo.toNat)) (f && hi.toNat == xs.length)) := by
  simp only [sliceSl?, lenOf, Z3g?, Option.bind_some]
  rw [if_pos (by omega)]
  simp only [Option.bind_some]
  rw [if_pos (by omega)]
  simp [ha]
theorem slice_hi {look : Nat → Option Tok} {sz : Nat} {k' : IntKind} {hi : Int} {xs : List (List PV)} {f : Bool} (ha : Z0v sz xs = true) (h1 : 0 ≤ hi) (h2 : hi ≤ xs.length) :
    sliceSl? look sz none (some (.int k' hi)) none (.sl xs f) = some (.sl (xs.take hi.toNat) (f && hi.toNat == xs.length)) := by
  simp only [sliceSl?, lenOf, Z3g?, Option.bind_some]
  rw [if_pos (by omega)]
  simp [ha]
theorem Zdt {look : Nat → Option Tok} {sz : Nat} {k : IntKind} {lo : Int} {xs : List (List PV)} {f : Bool} (ha : Z0v sz xs = true) (h0 : 0 ≤ lo) (h2 : lo ≤ xs.length) :
    sliceSl? look sz (some (.int k lo)) none none (.sl xs f) = some (.sl (xs.drop lo.toNat) f) := by
  simp only [sliceSl?, lenOf, Z3g?, Option.bind_some]
  rw [if_pos (by omega)]
  simp [ha]
  rw [List.take_of_length_le (by simp)]
theorem slice_osl {look : Nat → Option Tok} {sz t g off len : Nat} {k k' : IntKind} {lo hi : Int} {f lv : Bool} {es : List (List PV)} (hg : look t = some (.row g sz es lv)) (h0 : 0 ≤ lo) (h1 : lo ≤ hi) (h2 : hi ≤ len) :
    sliceSl? look sz (some (.int k lo)) (some (.int k' hi)) none (.osl t g off len f) = some (.osl t g (off + lo.toNat) (hi.toNat - lo.toNat) (f && hi.toNat == len)) := by
  simp only [sliceSl?, lenOf, Z3g?, Option.bind_some]
  rw [if_pos (by omega)]
  simp only [Option.bind_some]
  rw [if_pos (by omega)]
  simp [hg]
theorem slice_osl_lo {look : Nat → Option Tok} {sz t g off len : Nat} {k : IntKind} {lo : Int} {f lv : Bool} {es : List (List PV)} (hg : look t = some (.row g sz es lv)) (h0 : 0 ≤ lo) (h2 : lo ≤ len) :
    sliceSl? look sz (some (.int k lo)) none none (.osl t g off len f) = some (.osl t g (off + lo.toNat) (len - lo.toNat) f) := by
  simp only [sliceSl?, lenOf, Z3g?, Option.bind_some]
  rw [if_pos (by omega)]
  simp [hg]
section
variable {T : Tb} {Q : Z59} {k : List Fr} {ρ : EC} {st : St} {l : List POp} {kill : List Nat}
theorem Z2c {d : Option Nat} {x : Opd} {lo hi mx : Option Opd} {sz : Nat} {p : PV} {a b c : Option PV} (q : PV) (hx : x.get ρ = some p) (hl : Z48 ρ lo = some a) (hh : Z48 ρ hi = some b) (hm : Z48 ρ mx = some c) (hs : sliceSl? st.get sz a b c p = some q) (h : VO T Q l kill k (ρ.sets d q) st) : VO T Q (⟨d, none, .sliceSl x sz lo hi mx⟩ :: l) kill k ρ st :=
  Z0 (by simp only [Zg, Z62, hx, hl, hh, hm]; exact hs) h
theorem O_idx {d : Option Nat} {x i : Opd} {sz : Nat} {xs : List (List PV)} {f : Bool} {kk : IntKind} {n : Int} (cs : List PV) (hx : x.get ρ = some (.sl xs f)) (hi : i.get ρ = some (.int kk n)) (h0 : 0 ≤ n) (hc : xs[n.toNat]? = some cs) (hl : cs.length = sz) (h : VO T Q l kill k (ρ.sets d (.iptr cs 0)) st) : VO T Q (⟨d, none, .indexS x i sz⟩ :: l) kill k ρ st :=
  Z0 (by simp only [Zg, get2, hx, hi, Z5u, indexS?]; rw [if_pos h0, hc]; simp [hl]) h
theorem O_chr {d : Option Nat} {x i : Opd} {s : List UInt8} {kk : IntKind} {n : Int} (b : UInt8) (hx : x.get ρ = some (.str s)) (hi : i.get ρ = some (.int kk n)) (h0 : 0 ≤ n) (hc : s[n.toNat]? = some b) (h : VO T Q l kill k (ρ.sets d (.int .u8 b.toNat)) st) : VO T Q (⟨d, none, .indexStr x i⟩ :: l) kill k ρ st :=
  Z0 (by simp only [Zg, get2, hx, hi, Z5u, indexStr?]; rw [if_pos h0, hc]; simp) h
end
theorem Z4i : ∀ s : List UInt8, bytesOf? (Z1 s) = some s
  | [] => rfl
  | b :: s => by
    show (bytesOf? (Z1 s)).map (UInt8.ofNat (Int.toNat (b.toNat : Int)) :: ·) = _
    rw [Z4i s]
    simp
theorem Z00 (s : List UInt8) : okEls 1 (Z1 s) = true := by
  simp [okEls, Z1, PV.one]
theorem Z26 (s : List UInt8) : Z0v 1 (Z1 s) = true := by
  simp [Z0v, Z1]
theorem Z09 (a b : List UInt8) : Z1 (a ++ b) = Z1 a ++ Z1 b := by simp [Z1]
theorem Z01 (a : List UInt8) : (Z1 a).length = a.length := by simp [Z1]
theorem Z5w (a : List UInt8) (n : Nat) : (Z1 a).take n = Z1 (a.take n) := by simp [Z1]
theorem Z3l (a : List UInt8) (n : Nat) : (Z1 a).drop n = Z1 (a.drop n) := by simp [Z1]
inductive BV : PV → List UInt8 → Prop
  | nil : BV .nilSl []
  | sl (s : List UInt8) (full : Bool) : BV (.sl (Z1 s) full) s
theorem BV.pl {v : PV} {s : List UInt8} (h : BV v s) : Pl v := by
  cases h with
  | nil => exact .nilSl
  | sl s f => exact .sl _ _ (Z5b s)
theorem BV.elems {v : PV} {s : List UInt8} (h : BV v s) (look : Nat → Option Tok) : Z16 look v = some (Z1 s) := by
  cases h <;> rfl
theorem BV.len {v : PV} {s : List UInt8} (h : BV v s) : lenOf v = some s.length := by
  cases h with
  | nil => rfl
  | sl s f => simp [lenOf, Z1]
theorem BV.notStr {v : PV} {s : List UInt8} (h : BV v s) : Zc3 v = false := by cases h <;> rfl
section
variable {T : Tb} {Q : Z59} {k : List Fr} {ρ : EC} {st : St} {l : List POp} {kill : List Nat}
theorem O_toStr {d : Option Nat} {x : Opd} {v : PV} {s : List UInt8} (hx : x.get ρ = some v) (hv : BV v s) (h : VO T Q l kill k (ρ.sets d (.str s)) st) : VO T Q (⟨d, none, .toStr x⟩ :: l) kill k ρ st :=
  Z0 (by simp only [Zg, Z62, hx, hv.elems, Option.bind_some, Z4i, Option.map_some]) h
theorem Z0a {d : Option Nat} {x : Opd} {v : PV} {s : List UInt8} (hx : x.get ρ = some v) (hv : BV v s) (h : VO T Q l kill k (ρ.sets d (.int .i64 s.length)) st) : VO T Q (⟨d, none, .len false x⟩ :: l) kill k ρ st :=
  Z0 (by simp only [Zg, Z62, hx, hv.len, hv.notStr]; rfl) h
theorem Z0f {v : PV} {s : List UInt8} (hv : BV v s) : Z56 st v = some (Z1 s) := by cases hv <;> rfl
end
theorem BV.hi {v : PV} {s : List UInt8} (h : BV v s) (look : Nat → Option Tok) {k : IntKind} {m : Int} (h0 : 0 ≤ m) (h1 : m ≤ s.length) : ∃ v', sliceSl? look 1 none (some (.int k m)) none v = some v' ∧ BV v' (s.take m.toNat) := by
  cases h with
  | nil =>
    have : m = 0 := by simp at h1; omega
    subst this
    exact ⟨.nilSl, by simp [sliceSl?, lenOf, Z3g?], .nil⟩
  | sl s f => exact ⟨_, slice_hi (Z26 s) h0 (by rw [Z01]; exact h1), by rw [Z5w]; exact .sl _ _⟩
theorem BV.lo {v : PV} {s : List UInt8} (h : BV v s) (look : Nat → Option Tok) {k : IntKind} {m : Int} (h0 : 0 ≤ m) (h1 : m ≤ s.length) : ∃ v', sliceSl? look 1 (some (.int k m)) none none v = some v' ∧ BV v' (s.drop m.toNat) := by
  cases h with
  | nil =>
    have : m = 0 := by simp at h1; omega
    subst this
    exact ⟨.nilSl, by simp [sliceSl?, lenOf, Z3g?], .nil⟩
  | sl s f => exact ⟨_, Zdt (Z26 s) h0 (by rw [Z01]; exact h1), by rw [Z3l]; exact .sl _ _⟩
theorem BV.lohi {v : PV} {s : List UInt8} (h : BV v s) (look : Nat → Option Tok) {k k' : IntKind} {m m' : Int} (h0 : 0 ≤ m) (h01 : m ≤ m') (h1 : m' ≤ s.length) : ∃ v', sliceSl? look 1 (some (.int k m)) (some (.int k' m')) none v = some v' ∧ BV v' ((s.drop m.toNat).take (m'.toNat - m.toNat)) := by
  cases h with
  | nil =>
    have : m = 0 := by simp at h1; omega
    subst this
    have : m' = 0 := by simp at h1; omega
    subst this
    exact ⟨.nilSl, by simp [sliceSl?, lenOf, Z3g?], .nil⟩
  | sl s f => exact ⟨_, Zgq (Z26 s) h0 h01 (by rw [Z01]; exact h1), by rw [Z3l, Z5w]; exact .sl _ _⟩
end Go.AM
namespace Go.AM
open Go.RowKit
inductive LV {α : Type} (c : α → List PV) : PV → List α → Prop
  | nil : LV c .nilSl []
  | sl (l : List α) (full : Bool) : LV c (.sl (l.map c) full) l
section
variable {α : Type} {c : α → List PV} {v : PV} {l : List α}
theorem LV.pl (h : LV c v l) (hp : ∀ a ∈ l, ∀ x ∈ c a, Pl x) : Pl v := by
  cases h with
  | nil => exact .nilSl
  | sl l f =>
    refine .sl _ _ fun cs hcs x hx => ?_
    obtain ⟨a, ha, rfl⟩ := List.mem_map.1 hcs
    exact hp a ha x hx
theorem LV.elems (h : LV c v l) (look : Nat → Option Tok) : Z16 look v = some (l.map c) := by cases h <;> rfl
theorem LV.len (h : LV c v l) : lenOf v = some l.length := by
  cases h with
  | nil => rfl
  | sl l f => simp [lenOf]
theorem LV.notStr (h : LV c v l) : Zc3 v = false := by cases h <;> rfl
theorem LV.src (h : LV c v l) (st : St) : Z56 st v = some (l.map c) := by cases h <;> rfl
theorem allOf_map {sz : Nat} (hs : ∀ a ∈ l, (c a).length = sz) : Z0v sz (l.map c) = true := by
  simp only [Z0v, List.all_eq_true, List.mem_map, forall_exists_index, and_imp, forall_apply_eq_imp_iff₂, beq_iff_eq]
  exact hs
theorem LV.lo (h : LV c v l) (look : Nat → Option Tok) {sz : Nat} (hs : ∀ a ∈ l, (c a).length = sz) {k : IntKind} {m : Int} (h0 : 0 ≤ m) (h1 : m ≤ l.length) : ∃ v', sliceSl? look sz (some (.int k m)) none none v = some v' ∧ LV c v' (l.drop m.toNat) := by
  cases h with
  | nil =>
    have : m = 0 := by simp at h1; omega
    subst this
    exact ⟨.nilSl, by simp [sliceSl?, lenOf, Z3g?], .nil⟩
  | sl s f => exact ⟨_, Zdt (allOf_map hs) h0 (by simpa using h1), by rw [← List.map_drop]; exact .sl _ _⟩
theorem LV.hi (h : LV c v l) (look : Nat → Option Tok) {sz : Nat} (hs : ∀ a ∈ l, (c a).length = sz) {k : IntKind} {m : Int} (h0 : 0 ≤ m) (h1 : m ≤ l.length) : ∃ v', sliceSl? look sz none (some (.int k m)) none v = some v' ∧ LV c v' (l.take m.toNat) := by
  cases h with
  | nil =>
    have : m = 0 := by simp at h1; omega
    subst this
    exact ⟨.nilSl, by simp [sliceSl?, lenOf, Z3g?], .nil⟩
  | sl s f => exact ⟨_, slice_hi (allOf_map hs) h0 (by simpa using h1), by rw [← List.map_take]; exact .sl _ _⟩
end
def Z0n : PV → Option Nat
  | .osl t _ _ _ _ => some t
  | _ => none
def AccT (sz : Nat) (st : St) (v : PV) (es : List (List PV)) : Prop := (v = .nilSl ∧ es = []) ∨ ∃ t g, v = .osl t g 0 es.length false ∧ st.get t = some (.row g sz es true) ∧ t < st.next
theorem AccT.append {sz bytes : Nat} {st : St} {v : PV} {es src : List (List PV)} (h : AccT sz st v es) (hne : src ≠ []) (hr : (es.length + src.length) * bytes ≤ Zs) :
    ∃ v' st', Z0b st sz bytes v src = some (v', st') ∧ AccT sz st' v' (es ++ src) ∧ st'.base = st.base ∧ st.next ≤ st'.next ∧ (Z0n v' = Z0n v ∨ Z0n v = none ∧ Z0n v' = some st.next) ∧ ∀ u, Z0n v' ≠ some u → st'.get u = st.get u := by
  rcases h with ⟨rfl, rfl⟩ | ⟨t, g, rfl, hg, hlt⟩
  · refine ⟨_, _, Z3u hne (by simpa using hr), .inr ⟨st.next, 0, by simp, by simp [St.get, St.new, Z0i], by simp [St.new]⟩, rfl, by simp [St.new], .inr ⟨rfl, rfl⟩, fun u hu => ?_⟩
    simp only [St.get, St.new, Z0i]
    rw [if_neg (fun e => hu (by rw [← e]; rfl))]
  · refine ⟨_, _, Z84 (es := es) hne hg hr, .inr ⟨t, g + 1, by simp, by simp [St.get, St.put, Z0i], hlt⟩, rfl, Nat.le_refl _, .inl rfl, fun u hu => ?_⟩
    simp only [St.get, St.put, Z0i]
    rw [if_neg (fun e => hu (by rw [← e]; rfl))]
theorem AccT.keep {sz : Nat} {st st' : St} {v' w : PV} {es : List (List PV)} (h : AccT sz st w es) (hn : st.next ≤ st'.next) (hk : ∀ u, Z0n v' ≠ some u → st'.get u = st.get u) (hd : ∀ u, Z0n w = some u → Z0n v' ≠ some u) : AccT sz st' w es := by
  rcases h with ⟨rfl, rfl⟩ | ⟨t, g, rfl, hg, hlt⟩
  · exact .inl ⟨rfl, rfl⟩
  · exact .inr ⟨t, g, rfl, by rw [hk t (hd t rfl)]; exact hg, by omega⟩
theorem AccT.apart {sz : Nat} {st : St} {v v' w : PV} {es : List (List PV)} (h : AccT sz st w es) (ht : Z0n v' = Z0n v ∨ Z0n v = none ∧ Z0n v' = some st.next) (hd : ∀ u, Z0n w = some u → Z0n v ≠ some u) : ∀ u, Z0n w = some u → Z0n v' ≠ some u := by
  intro u hu hv
  rcases ht with h1 | ⟨_, h1⟩
  · exact hd u hu (by rw [← h1]; exact hv)
  · rw [h1] at hv
    injection hv with hv
    subst hv
    rcases h with ⟨rfl, _⟩ | ⟨t, g, rfl, hg, hlt⟩
    · cases hu
    · injection hu with hu; omega
def Win (sz : Nat) (st : St) (v : PV) (es : List (List PV)) : Prop := (v = .nilSl ∧ es = []) ∨ ∃ t g off f rs lv, v = .osl t g off es.length f ∧ st.get t = some (.row g sz rs lv) ∧ off + es.length ≤ rs.length ∧ (rs.drop off).take es.length = es
theorem Win.len {sz : Nat} {st : St} {v : PV} {es : List (List PV)} (h : Win sz st v es) : lenOf v = some es.length ∧ Zc3 v = false := by
  rcases h with ⟨rfl, rfl⟩ | ⟨t, g, off, f, rs, lv, rfl, hg, hb, he⟩
  · exact ⟨rfl, rfl⟩
  · exact ⟨rfl, rfl⟩
end Go.AM
namespace Go.AM
open Go.RowKit
def VM (T : Tb) (Q : Z59) (m : Nat) (A B : St) (k : Nat) (l : List POp) (kill : List Nat) (fr : List Fr) (e : EC) (st : St) : Prop :=
  ∀ ρ, Sub e ρ → ∃ ρ1 st1, T.R (.dl m A B k l ρ st ρ1 st1) ∧ W T Q fr .normal (Z29 kill ρ1) st1
section
variable {T : Tb} {Q : Z59} {k : List Fr} {ρ : EC} {st : St} {l : List POp} {kill : List Nat} {m j : Nat} {A B : St}
theorem V_M (m : Nat) (B : St) {x : EX} {k' : List Fr} (ha : Zi 200 k x = (.code (.drawn l kill) :: k', .normal)) (h : VM T Q m st B 0 l kill k' ρ st) : V T Q k x ρ st := Z38 ha fun r hr => by
  obtain ⟨ρ1, st1, h1, h2⟩ := h r hr
  exact ⟨_, _, _, .drawnL _ _ _ _ _ _ _ _ h1, h2⟩
theorem M_nil (h : V T Q k .normal (.drop kill ρ) st) : VM T Q m A B j [] kill k ρ st := fun r hr => ⟨_, _, .dlNil _ _ _ _ _ _, h _ (hr.drop kill)⟩
theorem Zd7 {d : Option Nat} {op : PI} {p : PV} (hk : Nat.beq j m = false) (hs : st = A ∨ st = B) (hq : Zg A.get ρ op = some p) (hq' : Zg B.get ρ op = some p) (h : VM T Q m A B (j + 1) l kill k (ρ.sets d p) st) : VM T Q m A B j (⟨d, none, op⟩ :: l) kill k ρ st := fun r hr => by
  obtain ⟨ρ1, st1, h1, h2⟩ := h _ (hr.sets d p)
  exact ⟨_, _, .dlQuiet _ _ _ _ _ _ _ _ p _ _ (Nat.ne_of_beq_eq_false hk) hs rfl (fun s hs => by rcases hs with rfl | rfl; exact Z10 hr hq; exact Z10 hr hq') h1, h2⟩
theorem M_call {d : Option Nat} {f : Opd} {xs : List Opd} {g : Nat} {caps vals args : List PV} {r : PV} (hk : Nat.beq j m = false) (hs : st = A ∨ st = B) (hf : f.get ρ = some (.func g caps)) (hx : Zdx ρ xs = some vals) (hv : Z1z false A.get (vals ++ caps) args) (hv' : Z1z false B.get (vals ++ caps) args) (hc : T.R (.call g args r)) (h : VM T Q m A B (j + 1) l kill k (ρ.sets d r) st) : VM T Q m A B j (⟨d, none, .call f xs⟩ :: l) kill k ρ st := fun e he => by
  obtain ⟨ρ1, st1, h1, h2⟩ := h _ (he.sets d r)
  exact ⟨_, _, .dlCall _ _ _ _ _ _ _ _ _ _ _ _ _ _ _ _ (Nat.ne_of_beq_eq_false hk) hs rfl rfl (Opd.ev_of he hf) (fun s hs => by rw [Z33 he hx]; rcases hs with rfl | rfl; exact hv; exact hv') hc h1, h2⟩
theorem M_loud {d : Option Nat} {op : PI} {p : PV} (hk : Nat.beq j m = true) (hq : Z4a A ρ op = some (p, B)) (h : VM T Q m A B (j + 1) l kill k (ρ.sets d p) B) : VM T Q m A B j (⟨d, none, op⟩ :: l) kill k ρ A := fun r hr => by
  have := Nat.eq_of_beq_eq_true hk
  subst this
  obtain ⟨ρ1, st1, h1, h2⟩ := h _ (hr.sets d p)
  exact ⟨_, _, .dlLoud _ _ _ _ _ _ p _ _ rfl (Z66 hr hq) h1, h2⟩
theorem M_raw {d : Option Nat} {f : Opd} {xs : List Opd} {g : Nat} {caps vals : List PV} (q τ : List (Nat × Tok)) {r : PV} {st1 : St} (hk : Nat.beq j m = true) (hf : f.get ρ = some (.func g caps)) (hx : Zdx ρ xs = some vals) (hp : Z6k A q τ) (hb : st1.base = A.next) (hc : T.R (.raw g (vals ++ caps) (Z1p A τ) r st1)) (hB : Z15 A q st1 = B) (h : VM T Q m A B (j + 1) l kill k (ρ.sets d r) B) : VM T Q m A B j (⟨d, none, .call f xs⟩ :: l) kill k ρ A := fun e he => by
  have := Nat.eq_of_beq_eq_true hk
  subst this hB
  obtain ⟨ρ1, st2, h1, h2⟩ := h _ (he.sets d r)
  exact ⟨_, _, .dlRaw _ _ _ _ _ _ _ _ _ q τ _ _ _ _ rfl rfl (Opd.ev_of he hf) hp hb (by rw [Z33 he hx]; exact hc) h1, h2⟩
theorem D_chr {d : Option Nat} {x i : Opd} {s : List UInt8} {kk : IntKind} {n : Int} (b : UInt8) (hx : x.get ρ = some (.str s)) (hi : i.get ρ = some (.int kk n)) (h0 : 0 ≤ n) (hc : s[n.toNat]? = some b) (h : VD T Q l kill k (ρ.sets d (.int .u8 b.toNat)) st) : VD T Q (⟨d, none, .indexStr x i⟩ :: l) kill k ρ st :=
  Z2g (by simp only [Zg, get2, hx, hi, Z5u, indexStr?]; rw [if_pos h0, hc]; simp) h
theorem D_idx {d : Option Nat} {x i : Opd} {sz : Nat} {xs : List (List PV)} {f : Bool} {kk : IntKind} {n : Int} (cs : List PV) (hx : x.get ρ = some (.sl xs f)) (hi : i.get ρ = some (.int kk n)) (h0 : 0 ≤ n) (hc : xs[n.toNat]? = some cs) (hl : cs.length = sz) (h : VD T Q l kill k (ρ.sets d (.iptr cs 0)) st) : VD T Q (⟨d, none, .indexS x i sz⟩ :: l) kill k ρ st :=
  Z2g (by simp only [Zg, get2, hx, hi, Z5u, indexS?]; rw [if_pos h0, hc]; simp [hl]) h
end
end Go.AM
namespace Go.AM
open Go.RowKit
section
variable [Gl]
theorem arr2 {vals : Array Value} (h : vals.size = 2) : vals = #[vals.getD 0 undef, vals.getD 1 undef] := by
  apply Array.ext
  · simp [h]
  · intro i h1 h2
    have : i = 0 ∨ i = 1 := by omega
    rcases this with rfl | rfl <;> simp [h]
theorem bytesNum : ∀ s : List UInt8, Lib.bytesOf (s.map fun b => (b.toNat : Int)) = s
  | [] => rfl
  | c :: s => by
    have := bytesNum s
    simp only [Lib.bytesOf, List.map_cons] at this ⊢
    rw [this]
    simp
theorem Z8d {P : Program} {F : Nat → Prop} {w : World} {v : Value} {p : PV} {s : List UInt8} (hr : Rep noG F w v p) (hb : BV p s) : (Extern.Bytes.bytesOf v).run P w = .ok ⟨s.toArray⟩ w := by
  cases hb with
  | nil => cases hr; rfl
  | sl s full =>
    cases hr with
    | sl xs full b o cap sz adr u hcap hfull hadr hsz hc hr =>
      simp only [Extern.Bytes.bytesOf]
      cases s with
      | nil => rfl
      | cons c s =>
        have hcap0 : 0 < cap := by simp [Z1] at hcap; omega
        obtain rfl := hadr hcap0
        have hsz1 : sz = 1 := (hsz 0 [.int .u8 c.toNat] (by simp [Z1])).symm
        subst hsz1
        have hl := Lib.run_loadBytesX (P := P) (w := w) ((c :: s).map fun b => (b.toNat : Int)) ⟨b, o, none⟩ .empty (fun j x hj => by
          rw [List.getElem?_map] at hj
          obtain ⟨y, hy, rfl⟩ := Option.map_eq_some_iff.1 hj
          have hcs : (Z1 (c :: s))[j]? = some [.int .u8 y.toNat] := by simp only [Z1, List.getElem?_map, hy, Option.map_some]
          obtain ⟨h1, _⟩ := hc j _ 0 _ hcs rfl
          have h2 := Z1l (hr j _ 0 _ hcs rfl)
          rw [h2] at h1
          rw [← h1]
          simp only [Z0e, Addr.add]
          split
          · rename_i h0; subst h0; simp
          · simp)
        have h3 : ((c :: s).map fun b => (b.toNat : Int)).length = (Z1 (c :: s)).length := by simp [Z1]
        rw [h3] at hl
        rw [hl]
        congr 2
        have := bytesNum (c :: s)
        rw [this]
        simp [ByteArray.empty, ByteArray.emptyWithCapacity]
        try rfl
theorem Zfq {P : Program} {F : Nat → Prop} {w : World} {v : Value} {s : List UInt8} (hr : Rep noG F w v (.str s)) : (Extern.Bytes.bytesOf v).run P w = .ok ⟨s.toArray⟩ w := by
  rw [Z1t hr]
  rfl
section
variable {P : Program} {f : Nat} {fn : Func} (hf : P.funcs[f]? = some fn) (hname : (fn.name == "runtime.NumGoroutine") = false) (hb : fn.body.isNone = true) (hn : Extern.findNext fn = none)
include hf hname hb hn
theorem ext_compareB (he : Extern.find fn = some Extern.BytealgCompare.compare) {p q : PV} {a b : List UInt8} (hp : BV p a) (hq : BV q b) : Z6j P f [p, q] (.int .i64 (Lib.compareBytes a b)) := by
  intro F w vals hs hr
  have e := arr2 (by simpa using hs)
  have h0 := Z8d (P := P) (hr 0 p rfl) hp
  have h1 := Z8d (P := P) (hr 1 q rfl) hq
  refine ⟨_, w, ?_, .refl _ _, .int _ _⟩
  rw [run_callFunc_extern hf hname hb hn he, e]
  change Result.andThen (Sem.run P (do pure (goInt (Extern.BytealgCompare.cmp (← Extern.Bytes.bytesOf (vals.getD 0 undef)) (← Extern.Bytes.bytesOf (vals.getD 1 undef))))) w) _ = _
  simp only [Sem.run_bind, h0, h1, Result.andThen_ok, Sem.run_pure, Lib.cmp_eq]
  rfl
theorem ext_compareS (he : Extern.find fn = some Extern.BytealgCompare.compare) (a b : List UInt8) : Z6j P f [.str a, .str b] (.int .i64 (Lib.compareBytes a b)) := by
  intro F w vals hs hr
  have e := arr2 (by simpa using hs)
  have h0 := Zfq (P := P) (hr 0 _ rfl)
  have h1 := Zfq (P := P) (hr 1 _ rfl)
  refine ⟨_, w, ?_, .refl _ _, .int _ _⟩
  rw [run_callFunc_extern hf hname hb hn he, e]
  change Result.andThen (Sem.run P (do pure (goInt (Extern.BytealgCompare.cmp (← Extern.Bytes.bytesOf (vals.getD 0 undef)) (← Extern.Bytes.bytesOf (vals.getD 1 undef))))) w) _ = _
  simp only [Sem.run_bind, h0, h1, Result.andThen_ok, Sem.run_pure, Lib.cmp_eq]
  rfl
theorem ext_indexB (he : Extern.find fn = some Extern.BytealgIndexByte.indexByte) {p : PV} {a : List UInt8} (c : Int) (hp : BV p a) : Z6j P f [p, .int .u8 c] (.int .i64 (Lib.indexByte a c.toNat.toUInt8)) := by
  intro F w vals hs hr
  have e := arr2 (by simpa using hs)
  have h0 := Z8d (P := P) (hr 0 p rfl) hp
  have h1 := Z1l (hr 1 _ rfl)
  refine ⟨_, w, ?_, .refl _ _, .int _ _⟩
  rw [run_callFunc_extern hf hname hb hn he, e, h1]
  have h2 := Lib.run_indexByteString (P := P) ⟨a.toArray⟩ c w
  have h3 : (Extern.BytealgIndexByte.indexByte #[vals.getD 0 undef, .int .u8 c]).run P w = (Extern.BytealgIndexByte.indexByte #[.string ⟨a.toArray⟩, .int .u8 c]).run P w := by
    change Sem.run P (do
      let b ← Extern.Bytes.bytesOf (vals.getD 0 undef)
      let c ← Extern.Bytes.asByte (.int .u8 c)
      match (List.range b.size).find? fun i => b[i]! == c with
      | some i => pure (goInt i)
      | none => pure (goInt (-1))) w = Sem.run P (do
      let b ← Extern.Bytes.bytesOf (.string ⟨a.toArray⟩)
      let c ← Extern.Bytes.asByte (.int .u8 c)
      match (List.range b.size).find? fun i => b[i]! == c with
      | some i => pure (goInt i)
      | none => pure (goInt (-1))) w
    rw [Sem.run_bind, Sem.run_bind, h0]
    rfl
  rw [h3, h2]
  rfl
theorem ext_countB (he : Extern.find fn = some Extern.BytealgCount.count) {p : PV} {a : List UInt8} (c : Int) (hp : BV p a) : Z6j P f [p, .int .u8 c] (.int .i64 (a.count c.toNat.toUInt8 : Nat)) := by
  intro F w vals hs hr
  have e := arr2 (by simpa using hs)
  have h0 := Z8d (P := P) (hr 0 p rfl) hp
  have h1 := Z1l (hr 1 _ rfl)
  refine ⟨_, w, ?_, .refl _ _, .int _ _⟩
  rw [run_callFunc_extern hf hname hb hn he, e, h1]
  have h2 := Lib.run_countString (P := P) ⟨a.toArray⟩ c w
  have h3 : (Extern.BytealgCount.count #[vals.getD 0 undef, .int .u8 c]).run P w = (Extern.BytealgCount.count #[.string ⟨a.toArray⟩, .int .u8 c]).run P w := by
    change Sem.run P (do
      let b ← Extern.Bytes.bytesOf (vals.getD 0 undef)
      let c ← Extern.Bytes.asByte (.int .u8 c)
      pure (goInt (b.foldl (fun n x => if x == c then n + 1 else n) (0 : Nat)))) w = Sem.run P (do
      let b ← Extern.Bytes.bytesOf (.string ⟨a.toArray⟩)
      let c ← Extern.Bytes.asByte (.int .u8 c)
      pure (goInt (b.foldl (fun n x => if x == c then n + 1 else n) (0 : Nat)))) w
    rw [Sem.run_bind, Sem.run_bind, h0]
    rfl
  rw [h3, h2]
  rfl
end
end
section
variable {T : Tb} {Q : Z59} {k : List Fr} {ρ : EC} {st : St} {l : List POp} {kill : List Nat}
theorem Z0r {d : Option Nat} {x : Opd} {v : PV} {n : Nat} (hx : x.get ρ = some v) (hl : lenOf v = some n) (hs : Zc3 v = false) (h : VO T Q l kill k (ρ.sets d (.int .i64 n)) st) : VO T Q (⟨d, none, .len false x⟩ :: l) kill k ρ st :=
  Z0 (by simp only [Zg, Z62, hx, hl, hs]; rfl) h
def At (sz : Nat) (v : PV) (n : Int) (cs : List PV) : Prop := 0 ≤ n ∧ cs.length = sz ∧ ∃ xs f, v = .sl xs f ∧ xs[n.toNat]? = some cs
theorem Zh {d : Option Nat} {x i : Opd} {sz : Nat} {v : PV} {kk : IntKind} {n : Int} {cs : List PV} (hx : x.get ρ = some v) (hi : i.get ρ = some (.int kk n)) (ha : At sz v n cs) (h : VO T Q l kill k (ρ.sets d (.iptr cs 0)) st) : VO T Q (⟨d, none, .indexS x i sz⟩ :: l) kill k ρ st := by
  obtain ⟨h0, hl, xs, f, rfl, hc⟩ := ha
  exact O_idx cs hx hi h0 hc hl h
theorem D_at {d : Option Nat} {x i : Opd} {sz : Nat} {v : PV} {kk : IntKind} {n : Int} {cs : List PV} (hx : x.get ρ = some v) (hi : i.get ρ = some (.int kk n)) (ha : At sz v n cs) (h : VD T Q l kill k (ρ.sets d (.iptr cs 0)) st) : VD T Q (⟨d, none, .indexS x i sz⟩ :: l) kill k ρ st := by
  obtain ⟨h0, hl, xs, f, rfl, hc⟩ := ha
  exact D_idx cs hx hi h0 hc hl h
theorem Zh1 {look : Nat → Option Tok} {n : Nat} {cs : List PV} (hl : cs.length = n) : loadAt look n true (.iptr cs 0) = some (.agg cs) := by
  subst hl
  simp [loadAt, behind, slice?]
theorem O_loadA {d : Option Nat} {x : Opd} {n : Nat} {cs : List PV} (hx : x.get ρ = some (.iptr cs 0)) (hl : cs.length = n) (h : VO T Q l kill k (ρ.sets d (.agg cs)) st) : VO T Q (⟨d, none, .load n true x⟩ :: l) kill k ρ st :=
  Z0 (by simp only [Zg, Z62, hx]; exact Zh1 hl) h
theorem Z87 {d : Option Nat} {x : Opd} {n : Nat} {cs : List PV} (hx : x.get ρ = some (.iptr cs 0)) (hl : cs.length = n) (h : VD T Q l kill k (ρ.sets d (.agg cs)) st) : VD T Q (⟨d, none, .load n true x⟩ :: l) kill k ρ st :=
  Z2g (by simp only [Zg, Z62, hx]; exact Zh1 hl) h
theorem Zp {n : Nat} {a x : Opd} {p q : PV} {st' : St} (ha : a.get ρ = some p) (hx : x.get ρ = some q) (h1 : q.cells.all PV.one = true) (hl : q.cells.length = n) (hn : Nat.blt 0 n = true) (hs : storeAt st p q = some st') (h : VO T Q l kill k (ρ.sets none (.tuple [])) st') : VO T Q (⟨none, none, .store n a x⟩ :: l) kill k ρ st :=
  Z9 (by
    have hn' : 0 < n := Nat.le_of_ble_eq_true hn
    simp only [Z4a, ha, hx]
    rw [if_pos ⟨h1, hl, hn'⟩, hs]
    rfl) h
end
theorem Z9k : ∀ cs ∈ ([] : List (List PV)), ∀ c ∈ cs, Pl c := fun cs h => by cases h
theorem Z6n {a : List PV} {l : List (List PV)} (ha : ∀ c ∈ a, Pl c) (hl : ∀ cs ∈ l, ∀ c ∈ cs, Pl c) : ∀ cs ∈ a :: l, ∀ c ∈ cs, Pl c := fun cs h => by
  rcases List.mem_cons.1 h with rfl | h
  · exact ha
  · exact hl cs h
def Za4 : List (Nat × PV) → EC
  | [] => .nil
  | (t, p) :: l => .put t p (Za4 l)
theorem Zfh {α : Type} {t : Nat} {x : α} : ∀ {l : List (Nat × α)}, Z7 t l = some x → (t, x) ∈ l
  | [], h => by cases h
  | (u, y) :: l, h => by
    simp only [Z7] at h
    split at h
    · rename_i e; injection h with h; subst h; subst e; exact List.mem_cons_self
    · exact List.mem_cons_of_mem _ (Zfh h)
theorem sub_ecOf : ∀ l : List (Nat × PV), Sub (Za4 l) l
  | [] => fun t p h => by cases h
  | (u, q) :: l => fun t p h => by
    have ih := sub_ecOf l
    simp only [Za4, EC.get] at h
    simp only [Z7]
    split at h
    · rename_i e
      have e' := Nat.eq_of_beq_eq_true e
      rw [if_pos (by omega)]
      exact h
    · rename_i e
      rw [if_neg (fun h' => by subst h'; simp at e)]
      exact ih t p h
section
variable {T : Tb} {Q : Z59} {k : List Fr} {ρ : EC} {st : St}
theorem V_forget {c : PC} (l : List (Nat × PV)) (st' : St) (h1 : ∀ x ∈ l, ρ.get x.1 = some x.2 ∧ Bel st'.next x.2) (hb : st'.base = st.base) (hn : st'.base ≤ st'.next ∧ st'.next ≤ st.next)
    (ht : ∀ x ∈ st'.toks, x.1 < st'.next ∧ BelTok st'.next x.2 ∧ st.get x.1 = some x.2) (h : V T Q (.code c :: k) .normal (Za4 l) st') : V T Q (.code c :: k) .normal ρ st := by
  refine V_weak (e' := Za4 l) (st' := st') (fun r hr => ⟨l, ⟨hb, hn, fun t p hp => ?_, fun t k hk => ?_⟩, sub_ecOf l⟩) h
  · have := h1 _ (Zfh hp)
    exact .inr ⟨hr _ _ this.1, this.2⟩
  · have := ht _ (Zfh hk)
    exact ⟨this.1, this.2.1, .inl this.2.2⟩
theorem fg_nil {m : Nat} : ∀ x ∈ ([] : List (Nat × PV)), ρ.get x.1 = some x.2 ∧ Bel m x.2 := fun x h => by cases h
theorem Z5v {m t : Nat} {p : PV} {l : List (Nat × PV)} (hg : ρ.get t = some p) (hp : Bel m p) (h : ∀ x ∈ l, ρ.get x.1 = some x.2 ∧ Bel m x.2) : ∀ x ∈ (t, p) :: l, ρ.get x.1 = some x.2 ∧ Bel m x.2 := fun x hx => by
  rcases List.mem_cons.1 hx with rfl | hx
  · exact ⟨hg, hp⟩
  · exact h x hx
theorem V_forgetAll {c : PC} (l : List (Nat × PV)) (h1 : ∀ x ∈ l, ρ.get x.1 = some x.2 ∧ Bel st.base x.2) (hn : st.base ≤ st.next) (h : V T Q (.code c :: k) .normal (Za4 l) ⟨st.base, st.base, []⟩) : V T Q (.code c :: k) .normal ρ st :=
  V_forget l (⟨st.base, st.base, []⟩ : St) h1 rfl ⟨Nat.le_refl _, hn⟩ (fun x hx => by cases hx) h
theorem view_ptr {look : Nat → Option Tok} {t off : Nat} {cs : List PV} (hg : look t = some (.var cs)) (hp : ∀ c ∈ cs, Pl c) : View true look (.ptr t off) (.iptr cs off) :=
  .ptr t off cs cs hg rfl rfl (fun i c d h1 h2 => by
    rw [h1] at h2; injection h2 with h2; subst h2
    exact (hp c (List.mem_of_getElem? h1)).view)
theorem view_func {live : Bool} {look : Nat → Option Tok} {f : Nat} {cs ds : List PV} (h : Z1z live look cs ds) : View live look (.func f cs) (.func f ds) := .func f cs ds h.1 h.2
end
def XCmpB (g f : Nat) (args : List PV) (r : PV) : Prop := f = g ∧ ∃ p q a b, args = [p, q] ∧ BV p a ∧ BV q b ∧ r = .int .i64 (Lib.compareBytes a b)
def XCmpS (g f : Nat) (args : List PV) (r : PV) : Prop := f = g ∧ ∃ a b, args = [.str a, .str b] ∧ r = .int .i64 (Lib.compareBytes a b)
def XIdxB (g f : Nat) (args : List PV) (r : PV) : Prop := f = g ∧ ∃ p a c, args = [p, .int .u8 c] ∧ BV p a ∧ r = .int .i64 (Lib.indexByte a c.toNat.toUInt8)
def XCntB (g f : Nat) (args : List PV) (r : PV) : Prop := f = g ∧ ∃ p a c, args = [p, .int .u8 c] ∧ BV p a ∧ r = .int .i64 (a.count c.toNat.toUInt8 : Nat)
section
variable [Gl]
variable {P : Program} {g : Nat} {fn : Func} (hf : P.funcs[g]? = some fn) (hname : (fn.name == "runtime.NumGoroutine") = false) (hb : fn.body.isNone = true) (hn : Extern.findNext fn = none)
include hf hname hb hn
theorem XCmpB.sem (he : Extern.find fn = some Extern.BytealgCompare.compare) {f : Nat} {args : List PV} {r : PV} (h : XCmpB g f args r) : Z6j P f args r := by
  obtain ⟨rfl, p, q, a, b, rfl, hp, hq, rfl⟩ := h
  exact ext_compareB hf hname hb hn he hp hq
theorem XCmpS.sem (he : Extern.find fn = some Extern.BytealgCompare.compare) {f : Nat} {args : List PV} {r : PV} (h : XCmpS g f args r) : Z6j P f args r := by
  obtain ⟨rfl, a, b, rfl, rfl⟩ := h
  exact ext_compareS hf hname hb hn he a b
theorem XIdxB.sem (he : Extern.find fn = some Extern.BytealgIndexByte.indexByte) {f : Nat} {args : List PV} {r : PV} (h : XIdxB g f args r) : Z6j P f args r := by
  obtain ⟨rfl, p, a, c, rfl, hp, rfl⟩ := h
  exact ext_indexB hf hname hb hn he c hp
theorem XCntB.sem (he : Extern.find fn = some Extern.BytealgCount.count) {f : Nat} {args : List PV} {r : PV} (h : XCntB g f args r) : Z6j P f args r := by
  obtain ⟨rfl, p, a, c, rfl, hp, rfl⟩ := h
  exact ext_countB hf hname hb hn he c hp
end
end Go.AM
namespace Go.AM
open Go.RowKit
theorem byteCells_get {s : List UInt8} {i : Nat} {b : UInt8} (h : s[i]? = some b) : (Z1 s)[i]? = some [.int .u8 b.toNat] := by
  simp [Z1, h]
theorem BV.at {v : PV} {s : List UInt8} (h : BV v s) {n : Int} (h0 : 0 ≤ n) {b : UInt8} (hb : s[n.toNat]? = some b) : At 1 v n [.int .u8 b.toNat] := by
  cases h with
  | nil => simp at hb
  | sl s f => exact ⟨h0, rfl, _, _, rfl, byteCells_get hb⟩
end Go.AM
namespace Go.AM
open Go.RowKit
section
variable {T : Tb} {Q : Z59} {k : List Fr} {ρ : EC} {st A B : St} {l : List POp} {kill : List Nat} {m j : Nat}
theorem copy_own {sz t g off len : Nat} {f : Bool} {es src : List (List PV)} (hg : st.get t = some (.row g sz es true)) (hb : off + len ≤ es.length) (hm : src.length ≤ len) :
    Zcw st sz (.osl t g off len f) src = some (.int .i64 src.length, st.put t (.row g sz (es.take off ++ src ++ es.drop (off + src.length)) true)) := by
  simp only [Zcw, hg]
  rw [if_pos ⟨trivial, trivial, hb⟩]
  rw [Nat.min_eq_left hm, List.take_of_length_le (Nat.le_refl _)]
theorem O_copy {d : Option Nat} {sz : Nat} {s x : Opd} {p q r : PV} {src : List (List PV)} {st' : St} (hs : s.get ρ = some p) (hx : x.get ρ = some q) (hsrc : Z56 st q = some src) (hok : okEls sz src = true) (hsz : 0 < sz)
    (hc : Zcw st sz p src = some (r, st')) (h : VO T Q l kill k (ρ.sets d r) st') : VO T Q (⟨d, none, .copy sz s x⟩ :: l) kill k ρ st := by
  refine Z9 ?_ h
  simp only [Z4a, hs, hx, hsrc, Option.bind_some]
  rw [if_pos ⟨hok, hsz⟩]
  exact hc
theorem M_copy {d : Option Nat} {sz : Nat} {s x : Opd} {p q r : PV} {src : List (List PV)} (hk : Nat.beq j m = true) (hs : s.get ρ = some p) (hx : x.get ρ = some q) (hsrc : Z56 A q = some src) (hok : okEls sz src = true) (hsz : 0 < sz)
    (hc : Zcw A sz p src = some (r, B)) (h : VM T Q m A B (j + 1) l kill k (ρ.sets d r) B) : VM T Q m A B j (⟨d, none, .copy sz s x⟩ :: l) kill k ρ A := by
  refine M_loud hk ?_ h
  simp only [Z4a, hs, hx, hsrc, Option.bind_some]
  rw [if_pos ⟨hok, hsz⟩]
  exact hc
theorem M_slice {d : Option Nat} {x : Opd} {lo hi mx : Option Opd} {sz : Nat} {p : PV} {a b c : Option PV} (q : PV) (hk : Nat.beq j m = false) (hst : st = A ∨ st = B) (hx : x.get ρ = some p) (hl : Z48 ρ lo = some a) (hh : Z48 ρ hi = some b) (hm : Z48 ρ mx = some c) (hs : sliceSl? A.get sz a b c p = some q) (hs' : sliceSl? B.get sz a b c p = some q) (h : VM T Q m A B (j + 1) l kill k (ρ.sets d q) st) : VM T Q m A B j (⟨d, none, .sliceSl x sz lo hi mx⟩ :: l) kill k ρ st :=
  Zd7 hk hst (by simp only [Zg, Z62, hx, hl, hh, hm]; exact hs) (by simp only [Zg, Z62, hx, hl, hh, hm]; exact hs') h
theorem O_make {d : Option Nat} {sz bytes : Nat} {zero : List PV} {len cap : Opd} {k1 k2 : IntKind} {n : Int} (hl : len.get ρ = some (.int k1 n)) (hc : cap.get ρ = some (.int k2 n)) (hz : zero.length = sz) (h0 : 0 ≤ n) (hr : n * bytes ≤ Zs)
    (h : VO T Q l kill k (ρ.sets d (.osl st.next 0 0 n.toNat false)) (st.new (.row 0 sz (List.replicate n.toNat zero) true))) : VO T Q (⟨d, none, .makeSl sz zero bytes len cap⟩ :: l) kill k ρ st := by
  refine Z9 ?_ h
  simp only [Z4a, hl, hc]
  rw [if_pos ⟨hz, h0, Int.le_refl _, hr⟩]
theorem O_makeN {d : Option Nat} {sz bytes : Nat} {zero : List PV} {len cap : Opd} {k1 k2 : IntKind} {n : Int} {N : Nat} (hl : len.get ρ = some (.int k1 n)) (hc : cap.get ρ = some (.int k2 n)) (hn : n = (N : Int)) (hz : zero.length = sz) (hr : N * bytes ≤ Zs)
    (h : VO T Q l kill k (ρ.sets d (.osl st.next 0 0 N false)) (st.new (.row 0 sz (List.replicate N zero) true))) : VO T Q (⟨d, none, .makeSl sz zero bytes len cap⟩ :: l) kill k ρ st := by
  subst hn
  exact O_make hl hc hz (by omega) (by exact_mod_cast hr) h
theorem O_idxA {d : Option Nat} {x i : Opd} {len sz t off : Nat} {kk : IntKind} {n : Int} (hx : x.get ρ = some (.ptr t off)) (hi : i.get ρ = some (.int kk n)) (h0 : 0 ≤ n ∧ n < len) (h : VO T Q l kill k (ρ.sets d (.ptr t (off + n.toNat * sz))) st) : VO T Q (⟨d, none, .indexA x i len sz⟩ :: l) kill k ρ st :=
  Z0 (by simp only [Zg, get2, hx, hi, Z5u, indexA?]; rw [if_pos h0]; rfl) h
theorem O_storeP {a x : Opd} {t off : Nat} {cs ds : List PV} {q : PV} (ha : a.get ρ = some (.ptr t off)) (hx : x.get ρ = some q) (h1 : q.cells = [q]) (h2 : PV.one q = true) (hg : st.get t = some (.var cs)) (hl : off + 1 ≤ cs.length) (hd : cs.take off ++ q :: cs.drop (off + 1) = ds) (h : VO T Q l kill k (ρ.sets none (.tuple [])) (st.put t (.var ds))) : VO T Q (⟨none, none, .store 1 a x⟩ :: l) kill k ρ st :=
  Zp ha hx (by rw [h1]; simp [h2]) (by rw [h1]; rfl) rfl (by
    simp only [storeAt, hg, h1]
    rw [if_pos (by simpa using hl), ← hd]
    simp [Z70]) h
theorem Z2m {d : Option Nat} {a : Opd} {t n : Nat} {cs : List PV} (ha : a.get ρ = some (.ptr t 0)) (hg : st.get t = some (.var cs)) (hl : cs.length = n) (h : VO T Q l kill k (ρ.sets d (.agg cs)) st) : VO T Q (⟨d, none, .load n true a⟩ :: l) kill k ρ st :=
  Z0 (by
    simp only [Zg, Z62, ha, loadAt, behind, hg]
    subst hl
    simp [slice?]) h
theorem Z3v {x : EX} {k' : List Fr} {c : Opd} {a b : PC} {t : Bool} (ht : t = false) (ha : Zi 200 k x = (.code (.cond c a b) :: k', .normal)) (hc : c.get ρ = some (.bool t)) (h1 : V T Q (.code b :: k') .normal ρ st) : V T Q k x ρ st := Ze ha (by rw [hc, ht]) h1
theorem Z27 {x : EX} {k' : List Fr} {c : Opd} {a b : PC} {t : Bool} (ht : t = true) (ha : Zi 200 k x = (.code (.cond c a b) :: k', .normal)) (hc : c.get ρ = some (.bool t)) (h1 : V T Q (.code a :: k') .normal ρ st) : V T Q k x ρ st := Zb ha (by rw [hc, ht]) h1
theorem O_shr {d : Option Nat} {x y : Opd} {kk k2 : IntKind} {a b : Int} (hx : x.get ρ = some (.int kk a)) (hy : y.get ρ = some (.int k2 b)) (hb : ¬ b < 0) (h : VO T Q l kill k (ρ.sets d (.int kk (a.fdiv (2 ^ (min b.toNat kk.bits))))) st) : VO T Q (⟨d, none, .bin .shr x y⟩ :: l) kill k ρ st :=
  Z0 (by simp only [Zg, get2, hx, hy, binOp?]; rw [if_pos (.inr (.inl trivial))]; simp only [Z95]; rw [if_neg hb]) h
theorem O_shl {d : Option Nat} {x y : Opd} {kk k2 : IntKind} {a b : Int} (hx : x.get ρ = some (.int kk a)) (hy : y.get ρ = some (.int k2 b)) (hb : ¬ b < 0) (h : VO T Q l kill k (ρ.sets d (.int kk (kk.wrap (a * 2 ^ (min b.toNat kk.bits))))) st) : VO T Q (⟨d, none, .bin .shl x y⟩ :: l) kill k ρ st :=
  Z0 (by simp only [Zg, get2, hx, hy, binOp?]; rw [if_pos (.inl trivial)]; simp only [Z95]; rw [if_neg hb]) h
end
theorem resG_cell {e : EC} {look : Nat → Option Tok} {a n : Nat} {agg : Bool} {p v : PV} (h : e.get a = some p) (hl : loadAt look n agg p = some v) : resG e look [.cell a n agg] = some v := by
  simp [resG, resGs, resG1, h, hl]
end Go.AM
namespace Go.AM
open Go.RowKit
theorem Z03 {st : St} {t : Nat} {cs ds : List PV} (hg : st.get t = some (.var cs)) (hl : cs.length = ds.length) : storeAt st (.ptr t 0) (.agg ds) = some (st.put t (.var ds)) := by
  have h0 : (PV.agg ds).cells = ds := rfl
  simp only [storeAt, hg]
  rw [if_pos (by rw [h0]; omega), h0]
  simp [Z70, ← hl]
theorem elems_vslB {look : Nat → Option Tok} {t : Nat} {s : List UInt8} (hg : look t = some (.var (s.map fun b => .int .u8 b.toNat))) : Z16 look (.vsl t 0 1 s.length) = some (Z1 s) := by
  simp only [Z16, hg]
  rw [if_pos (by simp)]
  congr 1
  apply List.ext_getElem?
  intro i
  by_cases hi : i < s.length
  · rw [List.getElem?_map, List.getElem?_range hi]
    simp only [Option.map_some, Z1, List.getElem?_map]
    rw [List.getElem?_eq_getElem hi]
    simp only [Option.map_some, Nat.zero_add, Nat.mul_one]
    congr 1
    apply List.ext_getElem?
    intro j
    rw [List.getElem?_take]
    by_cases hj : j < 1
    · have : j = 0 := by omega
      subst this
      simp [hi]
    · rw [if_neg hj, List.getElem?_eq_none (by simp; omega)]
  · rw [List.getElem?_eq_none (by simp; omega), List.getElem?_eq_none (by simp [Z1]; omega)]
theorem Zfx {st : St} {t g : Nat} {b c : List UInt8} (hg : st.get t = some (.row g 1 (Z1 b) true)) (hc : c ≠ []) (hr : b.length + c.length ≤ Zs) :
    Z0b st 1 1 (.osl t g 0 (Z1 b).length false) (Z1 c) = some (.osl t (g + 1) 0 (Z1 (b ++ c)).length false, st.put t (.row (g + 1) 1 (Z1 (b ++ c)) true)) := by
  rw [Z84 (by simpa [Z1] using hc) hg (by simp only [Z01]; omega), Z09, List.length_append]
theorem appN {st : St} {c : List UInt8} (hc : c ≠ []) (hr : c.length ≤ Zs) :
    Z0b st 1 1 .nilSl (Z1 c) = some (.osl st.next 0 0 (Z1 c).length false, st.new (.row 0 1 (Z1 c) true)) := by
  rw [Z3u (by simpa [Z1] using hc) (by simp only [Z01]; omega)]
theorem appE {st : St} {t g n : Nat} {f : Bool} : Z0b st 1 1 (.osl t g 0 n f) (Z1 []) = some (.osl t g 0 n f, st) := Z2a (.inr (.inr ⟨_, _, _, _, _, rfl⟩))
end Go.AM
namespace Go.AM
open Go.RowKit
theorem St.get_new {st : St} {k : Tok} : (st.new k).get st.next = some k := by simp [St.get, St.new, Z0i]
theorem St.get_new_old {st : St} {k : Tok} {u : Nat} (h : u < st.next) : (st.new k).get u = st.get u := by
  simp only [St.get, St.new, Z0i]
  rw [if_neg (by omega)]
theorem St.get_put {st : St} {t : Nat} {k : Tok} : (st.put t k).get t = some k := by simp [St.get, St.put, Z0i]
theorem St.get_put_old {st : St} {t u : Nat} {k : Tok} (h : t ≠ u) : (st.put t k).get u = st.get u := by
  simp only [St.get, St.put, Z0i]
  rw [if_neg h]
def Grow (st : St) (v : PV) (st' : St) (v' : PV) : Prop := st'.base = st.base ∧ st.next ≤ st'.next ∧ (Z0n v' = Z0n v ∨ ∃ n, Z0n v' = some n ∧ st.next ≤ n) ∧ ∀ u, u < st.next → Z0n v ≠ some u → st'.get u = st.get u
theorem Grow.refl (st : St) (v : PV) : Grow st v st v := ⟨rfl, Nat.le_refl _, .inl rfl, fun _ _ _ => rfl⟩
theorem Grow.trans {st st1 st2 : St} {v v1 v2 : PV} (h : Grow st v st1 v1) (k : Grow st1 v1 st2 v2) : Grow st v st2 v2 := by
  obtain ⟨a1, a2, a3, a4⟩ := h
  obtain ⟨b1, b2, b3, b4⟩ := k
  refine ⟨b1.trans a1, Nat.le_trans a2 b2, ?_, fun u hu hv => ?_⟩
  · rcases b3 with b3 | ⟨n, b3, b5⟩
    · rcases a3 with a3 | ⟨n, a3, a5⟩
      · exact .inl (b3.trans a3)
      · exact .inr ⟨n, b3.trans a3, a5⟩
    · exact .inr ⟨n, b3, by omega⟩
  · rw [b4 u (by omega) ?_, a4 u hu hv]
    rcases a3 with a3 | ⟨n, a3, a5⟩
    · rw [a3]; exact hv
    · rw [a3]; intro e; injection e; omega
theorem AccT.grow {sz bytes : Nat} {st : St} {v : PV} {es src : List (List PV)} (h : AccT sz st v es) (hne : src ≠ []) (hr : (es.length + src.length) * bytes ≤ Zs) :
    ∃ v' st', Z0b st sz bytes v src = some (v', st') ∧ AccT sz st' v' (es ++ src) ∧ Grow st v st' v' := by
  obtain ⟨v', st', h1, h2, h3, h4, h5, h6⟩ := h.append hne hr
  refine ⟨v', st', h1, h2, h3, h4, ?_, fun u hu hv => h6 u ?_⟩
  · rcases h5 with h5 | ⟨_, h5⟩
    · exact .inl h5
    · exact .inr ⟨_, h5, Nat.le_refl _⟩
  · rcases h5 with h5 | ⟨_, h5⟩
    · rw [h5]; exact hv
    · rw [h5]; intro e; injection e; omega
theorem AccT.none_fresh {sz : Nat} {st st' : St} {v' : PV} {es : List (List PV)} (h : Grow st .nilSl st' v') (ha : AccT sz st' v' es) (hne : es ≠ []) : ∃ t, Z0n v' = some t ∧ st.next ≤ t := by
  rcases h.2.2.1 with h3 | ⟨n, h3, h4⟩
  · rcases ha with ⟨_, h5⟩ | ⟨t, g, rfl, _, _⟩
    · exact absurd h5 hne
    · cases h3
  · exact ⟨n, h3, h4⟩
def RB (st : St) (v : PV) (s : List UInt8) : Prop := (v = .nilSl ∧ s = []) ∨ (∃ f, v = .sl (Z1 s) f) ∨ ∃ t g lv, v = .osl t g 0 (Z1 s).length false ∧ st.get t = some (.row g 1 (Z1 s) lv) ∧ t < st.next
theorem BV.rb {v : PV} {s : List UInt8} (h : BV v s) (st : St) : RB st v s := by
  cases h with
  | nil => exact .inl ⟨rfl, rfl⟩
  | sl s f => exact .inr (.inl ⟨f, rfl⟩)
theorem AccT.rb {st : St} {v : PV} {s : List UInt8} (h : AccT 1 st v (Z1 s)) : RB st v s := by
  rcases h with ⟨rfl, h⟩ | ⟨t, g, rfl, hg, hlt⟩
  · exact .inl ⟨rfl, by simpa [Z1] using h⟩
  · exact .inr (.inr ⟨t, g, true, rfl, hg, hlt⟩)
theorem RB.src {st : St} {v : PV} {s : List UInt8} (h : RB st v s) : Z56 st v = some (Z1 s) := by
  rcases h with ⟨rfl, rfl⟩ | ⟨f, rfl⟩ | ⟨t, g, lv, rfl, hg, _⟩
  · rfl
  · rfl
  · simp only [Z56, Z16, hg]
    rw [if_pos ⟨trivial, by omega⟩]
    simp
theorem RB.keep {st st' : St} {v : PV} {s : List UInt8} (h : RB st v s) (hn : st.next ≤ st'.next) (hk : ∀ u, Z0n v = some u → st'.get u = st.get u) : RB st' v s := by
  rcases h with ⟨rfl, rfl⟩ | ⟨f, rfl⟩ | ⟨t, g, lv, rfl, hg, hlt⟩
  · exact .inl ⟨rfl, rfl⟩
  · exact .inr (.inl ⟨f, rfl⟩)
  · exact .inr (.inr ⟨t, g, lv, rfl, by rw [hk t rfl]; exact hg, by omega⟩)
theorem RB.lt {st : St} {v : PV} {s : List UInt8} (h : RB st v s) {u : Nat} (hu : Z0n v = some u) : u < st.next := by
  rcases h with ⟨rfl, rfl⟩ | ⟨f, rfl⟩ | ⟨t, g, lv, rfl, hg, hlt⟩
  · cases hu
  · cases hu
  · injection hu with hu; omega
def EndsRQ (pf : PF) (Q : PV → St → Prop) : Z59 := fun x ρ st => (x = .normal ∨ x = .ret) ∧ ∃ r, resOf ρ st.get pf.results = some r ∧ Q r st
section
variable {T : Tb} {k : List Fr} {ρ : EC} {st : St} {l : List POp} {kill : List Nat}
theorem Z1c {f : Nat} {pf : PF} {args : List PV} {Q : PV → St → Prop} (hf : T.tbl f = some pf) (hn : Nat.ble args.length pf.ntmps = true) (h : V T (EndsRQ pf Q) [.code pf.body] .normal (Zh6 0 args) st) : ∃ r st', T.R (.raw f args st r st') ∧ Q r st' := by
  obtain ⟨x, ρ, st1, h1, hx, r, h2, h3⟩ := h _ (Zds 0 args)
  exact ⟨r, st1, .raw _ _ _ _ _ _ _ _ hf (Nat.le_of_ble_eq_true hn) h1 hx h2, h3⟩
theorem Z05 {pf : PF} {Q : PV → St → Prop} {r : PV} {x : EX} (ha : Zi 200 k x = ([], .ret)) (hr : resG ρ st.get pf.results = some r) (hq : Q r st) : V T (EndsRQ pf Q) k x ρ st := V_end ha fun e he => ⟨.inr rfl, r, resG_eq he hr, hq⟩
theorem Z0d {Q : Z59} {d : Option Nat} {f : Opd} {xs : List Opd} {g : Nat} {caps vals : List PV} {r : PV} {st1 : St} (hc : T.R (.raw g (vals ++ caps) ⟨st.next, st.next, st.toks⟩ r st1)) (hb : st1.base = st.next) (hf : f.get ρ = some (.func g caps)) (hx : Zdx ρ xs = some vals) (h : VO T Q l kill k (ρ.sets d r) ⟨st.base, st1.next, st1.toks⟩) : VO T Q (⟨d, none, .call f xs⟩ :: l) kill k ρ st :=
  O_rawP [] st.toks hf hx (fun t => ⟨rfl, .inl rfl⟩) hb hc h
theorem Zf {Q : Z59} {d : Option Nat} {a : Opd} {t off : Nat} {cs : List PV} {c : PV} (ha : a.get ρ = some (.ptr t off)) (hg : st.get t = some (.var cs)) (hc : cs[off]? = some c) (h : VO T Q l kill k (ρ.sets d c) st) : VO T Q (⟨d, none, .load 1 false a⟩ :: l) kill k ρ st :=
  Z0 (by
    have hlt := (List.getElem?_eq_some_iff.1 hc).1
    simp only [Zg, Z62, ha, loadAt, behind, hg, Option.bind_some, slice?]
    rw [if_pos (by omega)]
    simpa using hc) h
end
end Go.AM
namespace Go.AM
open Go.RowKit
section
variable {T : Tb} {Q : Z59} {k : List Fr} {ρ : EC} {st A B : St} {l : List POp} {kill : List Nat} {m j : Nat}
theorem M_loadP {d : Option Nat} {a : Opd} {t n : Nat} {cs : List PV} (hk : Nat.beq j m = false) (hst : st = A ∨ st = B) (ha : a.get ρ = some (.ptr t 0)) (hgA : A.get t = some (.var cs)) (hgB : B.get t = some (.var cs)) (hl : cs.length = n) (h : VM T Q m A B (j + 1) l kill k (ρ.sets d (.agg cs)) st) : VM T Q m A B j (⟨d, none, .load n true a⟩ :: l) kill k ρ st := by
  have key : ∀ s : St, s.get t = some (.var cs) → Zg s.get ρ (.load n true a) = some (.agg cs) := fun s hs => by
    simp only [Zg, Z62, ha, loadAt, behind, hs]
    subst hl
    simp [slice?]
  exact Zd7 hk hst (key A hgA) (key B hgB) h
theorem M_rawAll {d : Option Nat} {f : Opd} {xs : List Opd} {g : Nat} {caps vals : List PV} {r : PV} {st1 : St} (hc : T.R (.raw g (vals ++ caps) ⟨A.next, A.next, A.toks⟩ r st1)) (hb : st1.base = A.next) (hk : Nat.beq j m = true) (hf : f.get ρ = some (.func g caps)) (hx : Zdx ρ xs = some vals) (hB : (⟨A.base, st1.next, st1.toks⟩ : St) = B) (h : VM T Q m A B (j + 1) l kill k (ρ.sets d r) B) : VM T Q m A B j (⟨d, none, .call f xs⟩ :: l) kill k ρ A :=
  M_raw [] A.toks hk hf hx (fun t => ⟨rfl, .inl rfl⟩) hb hc hB h
end
end Go.AM
namespace Go.AM
open Go.RowKit
end Go.AM
namespace Go.AM
open Go.RowKit
def VM2 (T : Tb) (Q : Z59) (m1 m2 d : Nat) (A B C : St) (k : Nat) (l : List POp) (kill : List Nat) (fr : List Fr) (e : EC) (st : St) : Prop :=
  ∀ ρ, Sub e ρ → ∃ ρ1 st1, T.R (.dl2 m1 m2 d A B C k l ρ st ρ1 st1) ∧ W T Q fr .normal (Z29 kill ρ1) st1
section
variable {T : Tb} {Q : Z59} {m1 m2 dd j : Nat} {A B C : St} {k : List Fr} {l : List POp} {kill : List Nat} {ρ : EC} {st : St}
theorem V_M2 (m1 m2 d : Nat) (B C : St) (hm : Nat.blt m1 m2 = true) {x : EX} {k' : List Fr} (ha : Zi 200 k x = (.code (.drawn l kill) :: k', .normal)) (h : VM2 T Q m1 m2 d st B C 0 l kill k' ρ st) : V T Q k x ρ st := Z38 ha fun r hr => by
  obtain ⟨ρ1, st1, h1, h2⟩ := h r hr
  exact ⟨_, _, _, .drawnL2 _ _ _ _ _ _ _ _ _ _ _ (Nat.le_of_ble_eq_true hm) h1, h2⟩
theorem M2_nil (h : V T Q k .normal (.drop kill ρ) st) : VM2 T Q m1 m2 dd A B C j [] kill k ρ st := fun r hr => ⟨_, _, .dl2Nil _ _ _ _ _ _ _ _ _, h _ (hr.drop kill)⟩
theorem M2_step {d : Option Nat} {op : PI} {p : PV} (hk1 : Nat.beq j m1 = false) (hk2 : Nat.beq j m2 = false) (hs : st = A ∨ st = B ∨ st = C) (hq : Zg A.get ρ op = some p) (hq' : Zg B.get ρ op = some p) (hq'' : Zg C.get ρ op = some p) (h : VM2 T Q m1 m2 dd A B C (j + 1) l kill k (ρ.sets d p) st) : VM2 T Q m1 m2 dd A B C j (⟨d, none, op⟩ :: l) kill k ρ st := fun r hr => by
  obtain ⟨ρ1, st1, h1, h2⟩ := h _ (hr.sets d p)
  exact ⟨_, _, .dl2Quiet _ _ _ _ _ _ _ _ _ _ _ p _ _ (Nat.ne_of_beq_eq_false hk1) (Nat.ne_of_beq_eq_false hk2) hs rfl (fun s hs => by rcases hs with rfl | rfl | rfl; exact Z10 hr hq; exact Z10 hr hq'; exact Z10 hr hq'') h1, h2⟩
theorem M2_loud2 {d : Option Nat} {op : PI} {p : PV} (hk : Nat.beq j m2 = true) (hd : dd ∈ POp.tmps ⟨d, none, op⟩) (hq : Z4a B ρ op = some (p, C)) (h : VM2 T Q m1 m2 dd A B C (j + 1) l kill k (ρ.sets d p) C) : VM2 T Q m1 m2 dd A B C j (⟨d, none, op⟩ :: l) kill k ρ B := fun r hr => by
  have := Nat.eq_of_beq_eq_true hk
  subst this
  obtain ⟨ρ1, st1, h1, h2⟩ := h _ (hr.sets d p)
  exact ⟨_, _, .dl2Loud2 _ _ _ _ _ _ _ _ _ p _ _ hd rfl (Z66 hr hq) h1, h2⟩
theorem M2_raw1 {d : Nat} {f : Opd} {xs : List Opd} {g : Nat} {caps vals : List PV} {r : PV} {st1 : St} (hc : T.R (.raw g (vals ++ caps) ⟨A.next, A.next, A.toks⟩ r st1)) (hb : st1.base = A.next) (hk : Nat.beq j m1 = true) (hf : f.get ρ = some (.func g caps)) (hx : Zdx ρ xs = some vals) (hB : (⟨A.base, st1.next, st1.toks⟩ : St) = B) (h : VM2 T Q m1 m2 d A B C (j + 1) l kill k (ρ.sets (some d) r) B) : VM2 T Q m1 m2 d A B C j (⟨some d, none, .call f xs⟩ :: l) kill k ρ A := fun e he => by
  have := Nat.eq_of_beq_eq_true hk
  subst this hB
  obtain ⟨ρ1, st2, h1, h2⟩ := h _ (he.sets (some d) r)
  exact ⟨_, _, .dl2Raw1 _ _ _ _ _ _ _ _ _ _ _ _ [] A.toks _ _ _ _ rfl rfl rfl (Opd.ev_of he hf) (fun t => ⟨rfl, .inl rfl⟩) hb (by rw [Z33 he hx]; exact hc) h1, h2⟩
theorem M2_append2 {d : Option Nat} {sz bytes : Nat} {z : List PV} {s x : Opd} {p q r : PV} {src : List (List PV)} (hk : Nat.beq j m2 = true) (hd : dd ∈ POp.tmps ⟨d, none, .append sz bytes z s x⟩) (hs : s.get ρ = some p) (hx : x.get ρ = some q) (hsrc : Z56 B q = some src) (hok : okEls sz src = true) (hsz : 0 < sz) (hby : 0 < bytes)
    (ha : Z0b B sz bytes p src = some (r, C)) (h : VM2 T Q m1 m2 dd A B C (j + 1) l kill k (ρ.sets d r) C) : VM2 T Q m1 m2 dd A B C j (⟨d, none, .append sz bytes z s x⟩ :: l) kill k ρ B := by
  refine M2_loud2 hk hd ?_ h
  simp only [Z4a, hs, hx, hsrc, Option.bind_some]
  rw [if_pos ⟨hok, hsz, hby⟩]
  exact ha
theorem M2_loadV {d : Option Nat} {a : Opd} {t off : Nat} {cs : List PV} {c : PV} (hk1 : Nat.beq j m1 = false) (hk2 : Nat.beq j m2 = false) (hs : st = A ∨ st = B ∨ st = C) (ha : a.get ρ = some (.ptr t off)) (hg : ∀ s, s = A ∨ s = B ∨ s = C → s.get t = some (.var cs)) (hc : cs[off]? = some c) (h : VM2 T Q m1 m2 dd A B C (j + 1) l kill k (ρ.sets d c) st) : VM2 T Q m1 m2 dd A B C j (⟨d, none, .load 1 false a⟩ :: l) kill k ρ st := by
  have key : ∀ s : St, s.get t = some (.var cs) → Zg s.get ρ (.load 1 false a) = some c := fun s hs => by
    have hlt := (List.getElem?_eq_some_iff.1 hc).1
    simp only [Zg, Z62, ha, loadAt, behind, hs, Option.bind_some, slice?]
    rw [if_pos (by omega)]
    simpa using hc
  exact M2_step hk1 hk2 hs (key A (hg A (.inl rfl))) (key B (hg B (.inr (.inl rfl)))) (key C (hg C (.inr (.inr rfl)))) h
end
end Go.AM
namespace Go.AM
open Go.RowKit
section
variable {T : Tb} {Q : Z59} {k : List Fr} {ρ : EC} {st : St} {l : List POp} {kill : List Nat}
theorem Z6 {d : Option Nat} {op : PI} {p p' : PV} (he : p = p') (hq : Zg st.get ρ op = some p) (h : VO T Q l kill k (ρ.sets d p') st) : VO T Q (⟨d, none, op⟩ :: l) kill k ρ st := by
  subst he
  exact Z0 hq h
theorem Z0o {p : Prop} [Decidable p] (h : p) : PV.bool (decide p) = PV.bool true := by rw [decide_eq_true h]
theorem Z07 {p : Prop} [Decidable p] (h : ¬ p) : PV.bool (decide p) = PV.bool false := by rw [decide_eq_false h]
theorem ndec_is {p : Prop} [Decidable p] (h : p) : PV.bool (!decide p) = PV.bool false := by rw [decide_eq_true h]; rfl
theorem ndec_not {p : Prop} [Decidable p] (h : ¬ p) : PV.bool (!decide p) = PV.bool true := by rw [decide_eq_false h]; rfl
theorem Z6g {k : IntKind} {a b : Int} (h : a = b) : PV.int k a = PV.int k b := by rw [h]
end
end Go.AM
namespace Go.AM
open Go.RowKit
end Go.AM
namespace Go.AM
open Go.RowKit
section
variable {T : Tb} {Q : Z59} {k : List Fr} {ρ : EC} {st A B : St} {l : List POp} {kill : List Nat} {m j : Nat}
theorem Z8 {d : Option Nat} {f : Opd} {xs : List Opd} {g : Nat} {caps vals : List PV} {r : PV} (hf : f.get ρ = some (.func g caps)) (hx : Zdx ρ xs = some vals) (hc : T.R (.call g (vals ++ caps) r)) (h : VO T Q l kill k (ρ.sets d r) st)
    (hp : ∀ c ∈ vals ++ caps, Pl c := by (repeat' (first | exact Pl.int _ _ | exact Pl.bool _ | exact Pl.str _ | exact Pl.nilSl | exact Z45 | refine Z0k ?_ ?_ | refine Pl.tuple _ ?_ | refine Pl.agg _ ?_ | refine Pl.func _ _ ?_ | assumption | refine Pl.iptr _ _ ?_ | exact Z9k | refine Z6n ?_ ?_ | refine Pl.sl _ _ ?_)); first | done | fail) : VO T Q (⟨d, none, .call f xs⟩ :: l) kill k ρ st :=
  O_callP hf hx (Zdr hp) hc h
theorem D_cA {d : Option Nat} {f : Opd} {xs : List Opd} {g : Nat} {caps vals : List PV} {r : PV} (hf : f.get ρ = some (.func g caps)) (hx : Zdx ρ xs = some vals) (hc : T.R (.call g (vals ++ caps) r)) (h : VD T Q l kill k (ρ.sets d r) st)
    (hp : ∀ c ∈ vals ++ caps, Pl c := by (repeat' (first | exact Pl.int _ _ | exact Pl.bool _ | exact Pl.str _ | exact Pl.nilSl | exact Z45 | refine Z0k ?_ ?_ | refine Pl.tuple _ ?_ | refine Pl.agg _ ?_ | refine Pl.func _ _ ?_ | assumption | refine Pl.iptr _ _ ?_ | exact Z9k | refine Z6n ?_ ?_ | refine Pl.sl _ _ ?_)); first | done | fail) : VD T Q (⟨d, none, .call f xs⟩ :: l) kill k ρ st :=
  D_callP hf hx (Zdr hp) hc h
theorem Zl {pf : PF} {Q : PV → Prop} {x : EX} {r : PV} (ha : Zi 200 k x = ([], .ret)) (hr : resG ρ st.get pf.results = some r) (hq : Q r)
    (hp : Pl r := by (repeat' (first | exact Pl.int _ _ | exact Pl.bool _ | exact Pl.str _ | exact Pl.nilSl | exact Z45 | refine Z0k ?_ ?_ | refine Pl.tuple _ ?_ | refine Pl.agg _ ?_ | refine Pl.func _ _ ?_ | assumption | refine Pl.iptr _ _ ?_ | exact Z9k | refine Z6n ?_ ?_ | refine Pl.sl _ _ ?_)); first | done | fail) : V T (Ends pf Q) k x ρ st := Z5z ha hr hp.view hq
end
end Go.AM
namespace Go.AM
open Go.RowKit
def Got (e : EC) : List (Nat × PV) → Prop
  | [] => True
  | (t, p) :: l => e.get t = some p ∧ Got e l
theorem Got.get {e : EC} : ∀ {l : List (Nat × PV)}, Got e l → ∀ t p, (Za4 l).get t = some p → e.get t = some p
  | [], h, t, p, hp => by cases hp
  | (u, q) :: l, ⟨h1, h2⟩, t, p, hp => Z2 h1 (fun t p h => Got.get h2 t p h) t p hp
section
variable {T : Tb} {Q : Z59} {k : List Fr} {ρ : EC} {st : St} {P : EX → EC → St → Prop}
theorem V_to {x : EX} (l : List (Nat × PV)) (h : Got ρ l) (hv : V T Q k x (Za4 l) st) : V T Q k x ρ st := Zj (Za4 l) h.get hv
theorem V_re {x x' : EX} {k' : List Fr} {l : List (Nat × PV)} (ha : Zi 200 k x = (k', x')) (hv : V T Q k' x' (Za4 l) st) (h : Got ρ l) : V T Q k x ρ st := Z38 ha (V_to l h hv)
theorem V_out {x x' : EX} (l : List (Nat × PV)) (ha : Zi 200 k x = ([], x')) (h : Got ρ l) (hp : P x' (Za4 l) st) : V T (PE P) k x ρ st := V_to l h (Z1y ha hp)
theorem Zcc {c : PC} {x : EX} {k' : List Fr} {l : List (Nat × PV)} (ha : Zi 200 k' x = (.code c :: k, .normal)) (h : V T (PE P) [.code c] .normal (Za4 l) st) (hl : Got ρ l) (hk : ∀ x e st', P x e st' → V T Q k x e st') : V T Q k' x ρ st := Z38 ha (V_to l hl (V_cutP h hk))
end
theorem Z4b {k : IntKind} {a b : Int} (h : a = b) : some (PV.int k a) = some (PV.int k b) := by rw [h]
end Go.AM
namespace Go.AM
open Go.RowKit
def XIdxS (g f : Nat) (args : List PV) (r : PV) : Prop := f = g ∧ ∃ (a : List UInt8) (c : Int), args = [.str a, .int .u8 c] ∧ r = .int .i64 (Lib.indexByte a c.toNat.toUInt8)
def XCntS (g f : Nat) (args : List PV) (r : PV) : Prop := f = g ∧ ∃ (a : List UInt8) (c : Int), args = [.str a, .int .u8 c] ∧ r = .int .i64 (a.count c.toNat.toUInt8 : Nat)
section
variable [Gl]
variable {P : Program} {g : Nat} {fn : Func} (hf : P.funcs[g]? = some fn) (hname : (fn.name == "runtime.NumGoroutine") = false) (hb : fn.body.isNone = true) (hn : Extern.findNext fn = none)
include hf hname hb hn
theorem XIdxS.sem (he : Extern.find fn = some Extern.BytealgIndexByte.indexByte) {f : Nat} {args : List PV} {r : PV} (h : XIdxS g f args r) : Z6j P f args r := by
  obtain ⟨rfl, a, c, rfl, rfl⟩ := h
  intro F w vals hs hr
  have e := arr2 (by simpa using hs)
  have h0 := Z1t (hr 0 _ rfl)
  have h1 := Z1l (hr 1 _ rfl)
  refine ⟨_, w, ?_, .refl _ _, .int _ _⟩
  rw [run_callFunc_extern hf hname hb hn he, e, h0, h1, Lib.run_indexByteString (P := P) ⟨a.toArray⟩ c w]
  rfl
theorem XCntS.sem (he : Extern.find fn = some Extern.BytealgCount.count) {f : Nat} {args : List PV} {r : PV} (h : XCntS g f args r) : Z6j P f args r := by
  obtain ⟨rfl, a, c, rfl, rfl⟩ := h
  intro F w vals hs hr
  have e := arr2 (by simpa using hs)
  have h0 := Z1t (hr 0 _ rfl)
  have h1 := Z1l (hr 1 _ rfl)
  refine ⟨_, w, ?_, .refl _ _, .int _ _⟩
  rw [run_callFunc_extern hf hname hb hn he, e, h0, h1, Lib.run_countString (P := P) ⟨a.toArray⟩ c w]
  rfl
end
end Go.AM
namespace Go.AM
open Go.RowKit
end Go.AM
namespace Go.AM
open Go.RowKit
def LR {α : Type} (R : α → List PV → Prop) (p : PV) (l : List α) : Prop :=
  (p = .nilSl ∧ l = []) ∨ ∃ xs full, p = .sl xs full ∧ l.length ≤ 140737488355328 ∧ xs.length = l.length ∧ ∀ (j : Nat) (a : α) (cs : List PV), l[j]? = some a → xs[j]? = some cs → R a cs
section
variable {α : Type} {R R' : α → List PV → Prop} {p : PV} {l : List α}
theorem LR.len (h : LR R p l) : lenOf p = some l.length ∧ Zc3 p = false ∧ l.length ≤ 140737488355328 := by
  rcases h with ⟨rfl, rfl⟩ | ⟨xs, full, rfl, hb, hl, h⟩
  · exact ⟨rfl, rfl, by simp⟩
  · exact ⟨by simp [lenOf, hl], rfl, hb⟩
theorem LR.at {sz : Nat} (h : LR R p l) (hs : ∀ a cs, R a cs → cs.length = sz) {j : Nat} {a : α} (hv : l[j]? = some a) : ∃ cs, At sz p j cs ∧ R a cs := by
  rcases h with ⟨rfl, rfl⟩ | ⟨xs, full, rfl, hb, hl, h⟩
  · simp at hv
  · have hlt : j < xs.length := by have := (List.getElem?_eq_some_iff.1 hv).1; omega
    have hc := h _ a _ hv (List.getElem?_eq_getElem hlt)
    exact ⟨_, ⟨by omega, hs _ _ hc, xs, full, rfl, by simp [hlt]⟩, hc⟩
theorem LR.pl (h : LR R p l) (hp : ∀ a ∈ l, ∀ cs, R a cs → ∀ c ∈ cs, Pl c) : Pl p := by
  rcases h with ⟨rfl, rfl⟩ | ⟨xs, full, rfl, hb, hl, h⟩
  · exact .nilSl
  · refine .sl _ _ fun cs hcs c hc => ?_
    obtain ⟨j, hj⟩ := List.getElem?_of_mem hcs
    have hlt : j < l.length := by have := (List.getElem?_eq_some_iff.1 hj).1; omega
    exact hp l[j] (List.getElem_mem _) cs (h j l[j] cs (List.getElem?_eq_getElem hlt) hj) c hc
theorem LR.mono (h : LR R p l) (hi : ∀ a ∈ l, ∀ cs, R a cs → R' a cs) : LR R' p l := by
  rcases h with ⟨rfl, rfl⟩ | ⟨xs, full, rfl, hb, hl, h⟩
  · exact .inl ⟨rfl, rfl⟩
  · exact .inr ⟨xs, full, rfl, hb, hl, fun j a cs h1 h2 => hi a (List.mem_of_getElem? h1) cs (h j a cs h1 h2)⟩
theorem LR.elems (h : LR R p l) (look : Nat → Option Tok) : ∃ xs, Z16 look p = some xs ∧ xs.length = l.length ∧ ∀ (j : Nat) (a : α) (cs : List PV), l[j]? = some a → xs[j]? = some cs → R a cs := by
  rcases h with ⟨rfl, rfl⟩ | ⟨xs, full, rfl, hb, hl, h⟩
  · exact ⟨[], rfl, rfl, fun j a cs h1 => by simp at h1⟩
  · exact ⟨xs, rfl, hl, h⟩
theorem LR.map {β : Type} {R'' : β → List PV → Prop} {f : α → β} (h : LR R p l) (hi : ∀ a ∈ l, ∀ cs, R a cs → R'' (f a) cs) : LR R'' p (l.map f) := by
  rcases h with ⟨rfl, rfl⟩ | ⟨xs, full, rfl, hb, hl, h⟩
  · exact .inl ⟨rfl, rfl⟩
  · refine .inr ⟨xs, full, rfl, by simpa using hb, by simpa using hl, fun j b cs h1 h2 => ?_⟩
    rw [List.getElem?_map] at h1
    cases ha : l[j]? with
    | none => rw [ha] at h1; cases h1
    | some a =>
      rw [ha] at h1
      injection h1 with h1
      subst h1
      exact hi a (List.mem_of_getElem? ha) cs (h j a cs ha h2)
end
def AllPl : List (Nat × PV) → Prop
  | [] => True
  | (_, p) :: l => Pl p ∧ AllPl l
theorem AllPl.mem : ∀ {l : List (Nat × PV)}, AllPl l → ∀ x ∈ l, Pl x.2
  | [], h, x, hx => by cases hx
  | (u, q) :: l, ⟨h1, h2⟩, x, hx => by
    rcases List.mem_cons.1 hx with rfl | hx
    · exact h1
    · exact AllPl.mem h2 x hx
end Go.AM
namespace Go.AM
open Go.RowKit
section
variable {H : Type} {P : Program}
structure BdOK (P : Program) (B : TypeId → DataW H → Prop) : Prop where
  str : ∀ {t : TypeId} {s : List UInt8}, B t (.lit (.string s)) → s.length ≤ 140737488355328
  sl : ∀ {t e : TypeId} {ds rest : List (DataW H)}, P.underlying t = some (.slice e) → 0 < P.bytesOf e → B t (.slice ds rest) → ds.length ≤ 140737488355328 ∧ ∀ d ∈ ds, B e d
  st : ∀ {t : TypeId} {fs : Array Field} {ds : List (DataW H)}, P.underlying t = some (.struct fs) → B t (.agg ds) → ∀ (j : Nat) (f : Field) (d : DataW H), fs[j]? = some f → ds[j]? = some d → B f.type d
def Wgt (P : Program) (t : TypeId) (d : DataW H) : Prop := (DataW.weights P t d).all (· ≤ reachBytes) = true
theorem wgt_all {e : TypeId} : ∀ {ds : List (DataW H)}, (DataW.weightsAll P e ds).all (· ≤ reachBytes) = true → ∀ d ∈ ds, Wgt P e d
  | [], _, d, h => by cases h
  | x :: r, h, d, hd => by
    simp only [DataW.weightsAll, List.all_append, Bool.and_eq_true] at h
    rcases List.mem_cons.1 hd with rfl | hd
    · exact h.1
    · exact wgt_all h.2 d hd
theorem Zaa : ∀ {ts : List TypeId} {ds : List (DataW H)}, (DataW.weightsEach P ts ds).all (· ≤ reachBytes) = true → ∀ (j : Nat) (t : TypeId) (d : DataW H), ts[j]? = some t → ds[j]? = some d → Wgt P t d
  | [], _, _, j, t, d, h1, _ => by simp at h1
  | _ :: _, [], _, j, t, d, _, h2 => by simp at h2
  | t :: ts, x :: r, h, j, u, d, h1, h2 => by
    simp only [DataW.weightsEach, List.all_append, Bool.and_eq_true] at h
    cases j with
    | zero => injection h1 with h1; injection h2 with h2; subst h1 h2; exact h.1
    | succ j => exact Zaa h.2 j u d (by simpa using h1) (by simpa using h2)
theorem wgt_ok : BdOK (H := H) P (Wgt P) where
  str := fun {t s} h => by
    simp only [Wgt, DataW.weights, List.all_cons, List.all_nil, Bool.and_true, decide_eq_true_eq] at h
    unfold reachBytes at h
    omega
  sl := fun {t e ds rest} hu hb h => by
    simp only [Wgt, DataW.weights, hu, List.all_cons, List.all_append, Bool.and_eq_true, decide_eq_true_eq] at h
    refine ⟨?_, wgt_all h.2.1⟩
    have h1 := h.1
    unfold reachBytes at h1
    have : ds.length * 1 ≤ (ds.length + rest.length) * P.bytesOf e := Nat.mul_le_mul (by omega) hb
    omega
  st := fun {t fs ds} hu h j f d h1 h2 => by
    simp only [Wgt, DataW.weights, hu] at h
    exact Zaa h j f.type d (by rw [List.getElem?_map, Array.getElem?_toList, h1]; rfl) h2
variable {B : TypeId → DataW H → Prop}
theorem part_size {ds rest : List (DataW H)} {d : DataW H} (h : d ∈ ds) : SizeOf.sizeOf d < SizeOf.sizeOf (DataW.slice ds rest) := by
  have := List.sizeOf_lt_of_mem h
  simp
  omega
theorem field_size {ds : List (DataW H)} {d : DataW H} (h : d ∈ ds) : SizeOf.sizeOf d < SizeOf.sizeOf (DataW.agg ds) := by
  have := List.sizeOf_lt_of_mem h
  simp
  omega
end
end Go.AM
namespace Go.AM
open Go.RowKit
theorem sum_le {α β : Type} {w : α → Nat} {u : β → Nat} : ∀ {l : List α} {m : List β}, l.length = m.length → (∀ (j : Nat) (a : α) (b : β), l[j]? = some a → m[j]? = some b → w a ≤ u b) → (l.map w).sum ≤ (m.map u).sum
  | [], [], _, _ => Nat.le_refl _
  | a :: l, b :: m, hl, h => by
    have h0 := h 0 a b rfl rfl
    have := sum_le (l := l) (m := m) (w := w) (u := u) (by simpa using hl) (fun j a b h1 h2 => h (j + 1) a b (by simpa using h1) (by simpa using h2))
    simp only [List.map_cons, List.sum_cons]
    omega
  | [], _ :: _, hl, _ => by simp at hl
  | _ :: _, [], hl, _ => by simp at hl
section
variable {H : Type} {P : Program} {B : TypeId → DataW H → Prop}
theorem lr_ofW {α : Type} [Inhabited α] {R : α → List PV → Prop} {t e : TypeId} {d : DataW H} {qs : List PV} (w : α → Nat) (u : DataW H → Nat) (hB : BdOK P B) (hu : P.underlying t = some (.slice e)) (hp : 0 < P.cellsOf e) (hb : 0 < P.bytesOf e) (h : TV P t d qs) (hd : B t d)
    (ih : ∀ (x : DataW H) (cs : List PV), SizeOf.sizeOf x < SizeOf.sizeOf d → TV P e x cs → B e x → ∃ a, R a cs ∧ w a ≤ u x) : ∃ q l, qs = [q] ∧ LR R q l ∧ ((d = .nil ∧ l = []) ∨ ∃ dl rest, d = .slice dl rest ∧ l.length = dl.length ∧ (l.map w).sum ≤ (dl.map u).sum) := by
  rcases tv_slice hu hp h with ⟨rfl, rfl⟩ | ⟨dl, rest, xs, full, rfl, rfl, hlen, _, _, helems⟩
  · exact ⟨_, [], rfl, .inl ⟨rfl, rfl⟩, .inl ⟨rfl, rfl⟩⟩
  · obtain ⟨h1, h2⟩ := hB.sl hu hb hd
    have hx : ∀ j : Nat, ∃ v, ∀ cs x, xs[j]? = some cs → dl[j]? = some x → R v cs ∧ w v ≤ u x := fun j => by
      cases hj : xs[j]? with
      | none => exact ⟨default, fun cs x h => by cases h⟩
      | some cs =>
        have hlt : j < dl.length := by have := (List.getElem?_eq_some_iff.1 hj).1; omega
        have hm : dl[j] ∈ dl := List.getElem_mem hlt
        obtain ⟨v, hv, hw⟩ := ih dl[j] cs (part_size hm) (helems j _ cs (List.getElem?_eq_getElem hlt) hj) (h2 _ hm)
        refine ⟨v, fun cs' x h hx => ?_⟩
        injection h with h
        subst h
        rw [List.getElem?_eq_getElem hlt] at hx
        injection hx with hx
        subst hx
        exact ⟨hv, hw⟩
    obtain ⟨f, hf⟩ := Classical.axiomOfChoice hx
    have hg : ∀ (j : Nat) (v : α), ((List.range xs.length).map f)[j]? = some v → j < xs.length ∧ v = f j := fun j v hj => by
      have hlt : j < xs.length := by have := (List.getElem?_eq_some_iff.1 hj).1; simpa using this
      rw [List.getElem?_map, List.getElem?_range hlt] at hj
      injection hj with hj
      exact ⟨hlt, hj.symm⟩
    refine ⟨_, (List.range xs.length).map f, rfl, .inr ⟨xs, full, rfl, by simp; omega, by simp, fun j v cs hj hc => ?_⟩, .inr ⟨dl, rest, rfl, by simp [hlen], sum_le (by simp [hlen]) fun j v x hj hx => ?_⟩⟩
    · obtain ⟨hlt, rfl⟩ := hg j v hj
      exact (hf j cs dl[j] hc (List.getElem?_eq_getElem (by omega))).1
    · obtain ⟨hlt, rfl⟩ := hg j v hj
      exact (hf j xs[j] x (List.getElem?_eq_getElem hlt) hx).2
end
def AccP (sz : Nat) (st : St) (v : PV) (es : List (List PV)) : Prop := (v = .nilSl ∧ es = []) ∨ ∃ t g rs, v = .osl t g 0 es.length false ∧ st.get t = some (.row g sz rs true) ∧ rs.take es.length = es ∧ es.length ≤ rs.length
theorem AccP.app {sz bytes : Nat} {st : St} {v : PV} {es src : List (List PV)} (h : AccP sz st v es) (hr : (es.length + src.length) * bytes ≤ Zs) : ∃ v' st', Z0b st sz bytes v src = some (v', st') ∧ AccP sz st' v' (es ++ src) := by
  by_cases hne : src = []
  · subst hne
    refine ⟨v, st, ?_, by rw [List.append_nil]; exact h⟩
    unfold Z0b
    rw [if_pos rfl]
    rcases h with ⟨rfl, _⟩ | ⟨t, g, rs, rfl, _⟩ <;> rfl
  · rcases h with ⟨rfl, rfl⟩ | ⟨t, g, rs, rfl, hg, ht, hl⟩
    · exact ⟨_, _, Z3u hne (by simpa using hr), .inr ⟨st.next, 0, src, by simp, by simp [St.get, St.new, Z0i], by simp, by simp⟩⟩
    · refine ⟨.osl t (g + 1) 0 (es.length + src.length) false, st.put t (.row (g + 1) sz (es ++ src) true), ?_, .inr ⟨t, g + 1, es ++ src, by simp, by simp [St.get, St.put, Z0i], by rw [List.take_of_length_le (Nat.le_refl _)], Nat.le_refl _⟩⟩
      unfold Z0b
      rw [if_neg hne]
      simp only [hg]
      rw [if_pos ⟨trivial, trivial, by omega, hr⟩, List.drop_zero, ht]
theorem AccP.view {sz : Nat} {st : St} {v : PV} {es : List (List PV)} (h : AccP sz st v es) (hp : ∀ cs ∈ es, ∀ c ∈ cs, Pl c) : ∃ v', View true st.get v v' ∧ ((v' = .nilSl ∧ es = []) ∨ v' = .sl es false) := by
  rcases h with ⟨rfl, rfl⟩ | ⟨t, g, rs, rfl, hg, ht, hl⟩
  · exact ⟨.nilSl, .nilSl, .inl ⟨rfl, rfl⟩⟩
  · refine ⟨.sl es false, ?_, .inr rfl⟩
    have := view_osl (live := true) (full := false) hg (.inl rfl) (off := 0) (len := es.length) (by omega) (by rw [List.drop_zero, ht]; exact hp)
    rw [List.drop_zero, ht] at this
    exact this
end Go.AM
namespace Go.AM
open Go.RowKit
def AB (st : St) (v : PV) (s : List UInt8) : Prop := v = .sl (Z1 s) true ∨ AccT 1 st v (Z1 s)
theorem AB.nil (st : St) : AB st .nilSl [] := .inr (.inl ⟨rfl, rfl⟩)
theorem AB.lit (st : St) (s : List UInt8) : AB st (.sl (Z1 s) true) s := .inl rfl
theorem AB.rb {st : St} {v : PV} {s : List UInt8} (h : AB st v s) : RB st v s := by
  rcases h with rfl | h
  · exact .inr (.inl ⟨_, rfl⟩)
  · exact h.rb
theorem AB.src {st : St} {v : PV} {s : List UInt8} (h : AB st v s) : Z56 st v = some (Z1 s) := h.rb.src
theorem AB.len {st : St} {v : PV} {s : List UInt8} (h : AB st v s) : lenOf v = some s.length ∧ Zc3 v = false := by
  rcases h with rfl | ⟨rfl, h⟩ | ⟨t, g, rfl, hg, hlt⟩
  · exact ⟨by simp [lenOf, Z1], rfl⟩
  · have : s = [] := by simpa [Z1] using h
    subst this
    exact ⟨rfl, rfl⟩
  · exact ⟨by simp [lenOf, Z1], rfl⟩
theorem AB.lt {st : St} {v : PV} {s : List UInt8} (h : AB st v s) {u : Nat} (hu : Z0n v = some u) : u < st.next := h.rb.lt hu
theorem AB.re {st : St} {v : PV} {s : List UInt8} (h : AB st v s) (b : Nat) : AB ⟨b, st.next, st.toks⟩ v s := h
theorem AB.keep {st st' : St} {v : PV} {s : List UInt8} (h : AB st v s) (hn : st.next ≤ st'.next) (hk : ∀ u, Z0n v = some u → st'.get u = st.get u) : AB st' v s := by
  rcases h with rfl | ⟨rfl, h⟩ | ⟨t, g, rfl, hg, hlt⟩
  · exact .inl rfl
  · exact .inr (.inl ⟨rfl, h⟩)
  · exact .inr (.inr ⟨t, g, rfl, by rw [hk t rfl]; exact hg, by omega⟩)
theorem AB.apart {st st' : St} {v w w' : PV} {s : List UInt8} (h : AB st v s) (g : Grow st w st' w') (hd : ∀ u, Z0n v = some u → Z0n w ≠ some u) : AB st' v s :=
  h.keep g.2.1 fun u hu => g.2.2.2 u (h.lt hu) (hd u hu)
theorem AB.app {st : St} {v : PV} {s : List UInt8} (h : AB st v s) {t : List UInt8} (hl : s.length + t.length ≤ 100000000000000) : ∃ v' st', Z0b st 1 1 v (Z1 t) = some (v', st') ∧ AB st' v' (s ++ t) ∧ Grow st v st' v' := by
  by_cases ht : t = []
  · subst ht
    refine ⟨v, st, ?_, by rw [List.append_nil]; exact h, .refl _ _⟩
    refine Z2a ?_
    rcases h with rfl | ⟨rfl, _⟩ | ⟨t, g, rfl, _⟩
    · exact .inr (.inl ⟨_, _, rfl⟩)
    · exact .inl rfl
    · exact .inr (.inr ⟨_, _, _, _, _, rfl⟩)
  · have hne : Z1 t ≠ [] := by simpa [Z1] using ht
    rcases h with rfl | h
    · refine ⟨_, _, Z6y hne (by rw [Z01, Z01]; simp only [Zs]; omega) (Z26 s), .inr (.inr ⟨st.next, 0, by rw [Z09, List.length_append], by rw [Z09]; exact St.get_new, by simp [St.new]⟩), rfl, by simp [St.new], .inr ⟨st.next, rfl, Nat.le_refl _⟩, fun u hu _ => St.get_new_old hu⟩
    · obtain ⟨v', st', h1, h2, h3⟩ := h.grow (bytes := 1) hne (by rw [Z01, Z01]; simp only [Zs]; omega)
      exact ⟨v', st', h1, .inr (by rw [Z09]; exact h2), h3⟩
theorem AB.view {st : St} {v : PV} {s : List UInt8} (h : AB st v s) : ∃ v', View true st.get v v' ∧ BV v' s := by
  rcases h with rfl | ⟨rfl, h⟩ | ⟨t, g, rfl, hg, hlt⟩
  · exact ⟨_, (Pl.sl _ _ (Z5b s)).view, .sl s true⟩
  · have : s = [] := by simpa [Z1] using h
    subst this
    exact ⟨.nilSl, .nilSl, .nil⟩
  · exact ⟨.sl (Z1 s) false, Z4n hg (.inl rfl) rfl (Z5b s), .sl s false⟩
theorem AB.okEls {t : List UInt8} : Go.AM.okEls 1 (Z1 t) = true := Z00 t
def MakesB (T : Tb) (f : Nat) (args : List PV) (t : List UInt8) : Prop := ∀ st : St, st.base = st.next → ∃ v' st', T.R (.raw f args st v' st') ∧ AB st' v' t ∧ Grow st .nilSl st' v'
def AppsB (T : Tb) (f : Nat) (args : List PV) (t : List UInt8) : Prop := ∀ (st : St) (b : PV) (s : List UInt8), st.base = st.next → AB st b s → s.length + t.length ≤ 100000000000000 → ∃ v' st', T.R (.raw f (b :: args) st v' st') ∧ AB st' v' (s ++ t) ∧ Grow st b st' v'
theorem Grow.re {st st' : St} {v v' : PV} {b : Nat} (h : Grow ⟨st.next, st.next, st.toks⟩ v st' v') : Grow st v ⟨st.base, st'.next, st'.toks⟩ v' := ⟨rfl, h.2.1, h.2.2.1, h.2.2.2⟩
theorem Za2 {T : Tb} {f : Nat} {args : List PV} {v r : PV} {st' : St} (h : T.R (.raw f args emptySt v st')) (hv : View true st'.get v r) : T.R (.call f args r) := by
  cases h with
  | raw f pf args st x ρ' st' r hf hn h hx hr => exact .call _ _ _ _ _ _ _ _ hf hn h hx hr hv
theorem MakesB.call {T : Tb} {f : Nat} {args : List PV} {t : List UInt8} (h : MakesB T f args t) : ∃ q, T.R (.call f args q) ∧ BV q t := by
  obtain ⟨v', st', h1, h2, h3⟩ := h emptySt rfl
  obtain ⟨q, k1, k2⟩ := h2.view
  exact ⟨q, Za2 h1 k1, k2⟩
theorem view_rows {look : Nat → Option Tok} {t g sz : Nat} {full lv : Bool} {es ys : List (List PV)} (hg : look t = some (.row g sz es lv)) (hl : es.length = ys.length)
    (hc : ∀ (j : Nat) (cs ds : List PV), es[j]? = some cs → ys[j]? = some ds → cs.length = ds.length ∧ ∀ (i : Nat) (c d : PV), cs[i]? = some c → ds[i]? = some d → View true look c d) : View true look (.osl t g 0 es.length full) (.sl ys full) := by
  refine .osl t g 0 es.length full sz es lv ys hg (.inl rfl) (by omega) (by simpa using hl) (fun j cs ds h1 h2 => ?_) (fun j cs ds i c d h1 h2 h3 h4 => ?_)
  · rw [List.drop_zero, List.take_of_length_le (Nat.le_refl _)] at h1
    exact (hc j cs ds h1 h2).1
  · rw [List.drop_zero, List.take_of_length_le (Nat.le_refl _)] at h1
    exact (hc j cs ds h1 h2).2 i c d h3 h4
end Go.AM
namespace Go.AM
open Go.RowKit
def nthSt : St → List St → Nat → St
  | a, [], _ => a
  | a, _ :: _, 0 => a
  | _, b :: r, i + 1 => nthSt b r i
def AllS (Q : St → Prop) : St → List St → Prop
  | a, [] => Q a
  | a, b :: r => Q a ∧ AllS Q b r
theorem Z1b {Q : St → Prop} : ∀ {a : St} {r : List St}, AllS Q a r → ∀ i, Q (nthSt a r i)
  | a, [], h, 0 => h
  | a, [], h, _ + 1 => h
  | a, b :: r, h, 0 => h.1
  | a, b :: r, h, i + 1 => Z1b (a := b) (r := r) h.2 i
def mkC (pos : List Nat) (d : List (Option Nat)) (A : St) (r : List St) (al : Option (Nat × Nat × Nat × List PV)) : Chn := ⟨fun k => pos.findIdx? (Nat.beq k ·), fun i => (d[i]?).getD none, nthSt A r, al⟩
def VC (T : Tb) (Q : Z59) (C : Chn) (j : Nat) (l : List POp) (kill : List Nat) (fr : List Fr) (e : EC) (b : Bool) (i : Nat) : Prop :=
  ∀ ρ, Sub e ρ → ∃ ρ1 b1 i1, T.R (.dlc C j l ρ b i ρ1 b1 i1) ∧ C.float b1 i1 = false ∧ W T Q fr .normal (Z29 kill ρ1) (C.S i1)
section
variable {T : Tb} {Q : Z59} {C : Chn} {j : Nat} {k : List Fr} {l : List POp} {kill : List Nat} {ρ : EC} {b : Bool} {i : Nat}
theorem V_C (C : Chn) {st : St} {x : EX} {k' : List Fr} (hS : C.S 0 = st) (ha : Zi 200 k x = (.code (.drawn l kill) :: k', .normal)) (h : VC T Q C 0 l kill k' ρ false 0) : V T Q k x ρ st := Z38 ha fun r hr => by
  obtain ⟨ρ1, b1, i1, h1, h2, h3⟩ := h r hr
  exact ⟨_, _, _, hS ▸ .drawnLc _ _ _ _ _ _ _ h2 h1, h3⟩
theorem C_nil {st : St} (hf : C.float b i = false) (hS : C.S i = st) (h : V T Q k .normal (.drop kill ρ) st) : VC T Q C j [] kill k ρ b i := fun r hr => ⟨_, _, _, .dlcNil _ _ _ _ _, hf, by rw [hS]; exact h _ (hr.drop kill)⟩
theorem C_look {d : Option Nat} {op : PI} {p : PV} (hx : C.idx j = none) (hw : C.away j ⟨d, none, op⟩ = true) (hq : ∀ i, Zg (C.S i).get ρ op = some p) (h : VC T Q C (j + 1) l kill k (ρ.sets d p) b i) : VC T Q C j (⟨d, none, op⟩ :: l) kill k ρ b i := fun r hr => by
  obtain ⟨ρ1, b1, i1, h1, h2⟩ := h _ (hr.sets d p)
  exact ⟨_, _, _, .dlcQuiet _ _ _ _ _ _ _ p _ _ _ hx hw rfl (fun i => Z10 hr (hq i)) h1, h2⟩
theorem Z88 {d : Option Nat} {op : PI} {p : PV} (hx : C.idx j = none) (hw : C.away j ⟨d, none, op⟩ = true) (hq : ∀ look, Zg look ρ op = some p) (h : VC T Q C (j + 1) l kill k (ρ.sets d p) b i) : VC T Q C j (⟨d, none, op⟩ :: l) kill k ρ b i := C_look hx hw (fun i => hq _) h
theorem Z60 {d : Option Nat} {a : Opd} {t off : Nat} {cs : List PV} {c : PV} (hx : C.idx j = none) (hw : C.away j ⟨d, none, .load 1 false a⟩ = true) (ha : a.get ρ = some (.ptr t off)) (hg : ∀ i, (C.S i).get t = some (.var cs)) (hc : cs[off]? = some c) (h : VC T Q C (j + 1) l kill k (ρ.sets d c) b i) : VC T Q C j (⟨d, none, .load 1 false a⟩ :: l) kill k ρ b i :=
  C_look hx hw (fun i => by
    have hs := hg i
    have hlt := (List.getElem?_eq_some_iff.1 hc).1
    simp only [Zg, Z62, ha, loadAt, behind, hs, Option.bind_some, slice?]
    rw [if_pos (by omega)]
    simpa using hc) h
theorem Z43 {d : Option Nat} {a : Opd} {t n : Nat} {cs : List PV} (hx : C.idx j = none) (hw : C.away j ⟨d, none, .load n true a⟩ = true) (ha : a.get ρ = some (.ptr t 0)) (hg : ∀ i, (C.S i).get t = some (.var cs)) (hl : cs.length = n) (h : VC T Q C (j + 1) l kill k (ρ.sets d (.agg cs)) b i) : VC T Q C j (⟨d, none, .load n true a⟩ :: l) kill k ρ b i :=
  C_look hx hw (fun i => by
    have hs := hg i
    simp only [Zg, Z62, ha, loadAt, behind, hs]
    subst hl
    simp [slice?]) h
theorem Z7a {d : Option Nat} {f : Opd} {xs : List Opd} {g : Nat} {caps vals args : List PV} {r : PV} (hx : C.idx j = none) (hw : C.away j ⟨d, none, .call f xs⟩ = true) (hf : f.get ρ = some (.func g caps)) (hxs : Zdx ρ xs = some vals) (hv : ∀ look, Z1z false look (vals ++ caps) args) (hc : T.R (.call g args r)) (h : VC T Q C (j + 1) l kill k (ρ.sets d r) b i) : VC T Q C j (⟨d, none, .call f xs⟩ :: l) kill k ρ b i := fun e he => by
  obtain ⟨ρ1, b1, i1, h1, h2⟩ := h _ (he.sets d r)
  exact ⟨_, _, _, .dlcCall _ _ _ _ _ _ _ _ _ _ _ _ _ _ _ _ hx hw rfl rfl (Opd.ev_of he hf) (fun i => by rw [Z33 he hxs]; exact hv _) hc h1, h2⟩
theorem C_loud {d : Option Nat} {op : PI} {p : PV} (hx : C.idx j = some i) (hw : C.away j ⟨d, none, op⟩ = true) (hl : C.link i ⟨d, none, op⟩ = true) (hd : d = C.d i) (hs : C.stores i = false) (hq : Z4a (C.S i) ρ op = some (p, C.S (i + 1))) (h : VC T Q C (j + 1) l kill k (ρ.sets d p) b (i + 1)) : VC T Q C j (⟨d, none, op⟩ :: l) kill k ρ b i := fun r hr => by
  obtain ⟨ρ1, b1, i1, h1, h2⟩ := h _ (hr.sets d p)
  exact ⟨_, _, _, .dlcLoud _ _ _ _ _ _ _ p _ _ _ hx hw hl hd hs rfl (Z66 hr hq) h1, h2⟩
theorem Ze5 {A B : St} {d : Option Nat} {sz bytes : Nat} {z : List PV} {s x : Opd} {p q r : PV} {src : List (List PV)} (hx : C.idx j = some i) (hw : C.away j ⟨d, none, .append sz bytes z s x⟩ = true) (hl : C.link i ⟨d, none, .append sz bytes z s x⟩ = true) (hd : d = C.d i) (hs : C.stores i = false) (hA : C.S i = A) (hB : C.S (i + 1) = B) (hsv : s.get ρ = some p) (hxv : x.get ρ = some q) (hsrc : Z56 A q = some src) (hok : okEls sz src = true) (hsz : 0 < sz) (hby : 0 < bytes)
    (ha : Z0b A sz bytes p src = some (r, B)) (h : VC T Q C (j + 1) l kill k (ρ.sets d r) b (i + 1)) : VC T Q C j (⟨d, none, .append sz bytes z s x⟩ :: l) kill k ρ b i := by
  refine C_loud hx hw hl hd hs ?_ h
  subst hA hB
  simp only [Z4a, hsv, hxv, hsrc, Option.bind_some]
  rw [if_pos ⟨hok, hsz, hby⟩]
  exact ha
theorem C_move {A : St} {d : Option Nat} {op : PI} {p : PV} (hx : C.idx j = some i) (hw : C.away j ⟨d, none, op⟩ = true) (hl : C.link i ⟨d, none, op⟩ = true) (hd : d = C.d i) (hs : C.stores i = false) (hA : C.S i = A) (hB : C.S (i + 1) = A) (hq : Zg A.get ρ op = some p) (h : VC T Q C (j + 1) l kill k (ρ.sets d p) b (i + 1)) : VC T Q C j (⟨d, none, op⟩ :: l) kill k ρ b i := fun r hr => by
  subst hA
  obtain ⟨ρ1, b1, i1, h1, h2⟩ := h _ (hr.sets d p)
  exact ⟨_, _, _, .dlcMove _ _ _ _ _ _ _ p _ _ _ hx hw hl hd hs rfl hB (Z10 hr hq) h1, h2⟩
theorem C_raw {A : St} {d : Option Nat} {f : Opd} {xs : List Opd} {g : Nat} {caps vals : List PV} (q τ : List (Nat × Tok)) {r : PV} {st1 : St} (hx : C.idx j = some i) (hw : C.away j ⟨d, none, .call f xs⟩ = true) (hl : C.link i ⟨d, none, .call f xs⟩ = true) (hd : d = C.d i) (hs : C.stores i = false) (hA : C.S i = A) (hf : f.get ρ = some (.func g caps)) (hxs : Zdx ρ xs = some vals) (hp : Z6k A q τ) (hb : st1.base = A.next) (hc : T.R (.raw g (vals ++ caps) (Z1p A τ) r st1)) (hB : C.S (i + 1) = Z15 A q st1) (h : VC T Q C (j + 1) l kill k (ρ.sets d r) b (i + 1)) : VC T Q C j (⟨d, none, .call f xs⟩ :: l) kill k ρ b i := fun e he => by
  subst hA
  obtain ⟨ρ1, b1, i1, h1, h2⟩ := h _ (he.sets d r)
  exact ⟨_, _, _, .dlcRaw _ _ _ _ _ _ _ _ _ _ _ q τ _ _ _ _ _ hx hw hl hd hs rfl rfl (Opd.ev_of he hf) hp hb hB (by rw [Z33 he hxs]; exact hc) h1, h2⟩
theorem Z4j {A : St} {d : Option Nat} {f : Opd} {xs : List Opd} {g : Nat} {caps vals : List PV} {r : PV} {st1 : St} (hx : C.idx j = some i) (hw : C.away j ⟨d, none, .call f xs⟩ = true) (hl : C.link i ⟨d, none, .call f xs⟩ = true) (hd : d = C.d i) (hs : C.stores i = false) (hA : C.S i = A) (hf : f.get ρ = some (.func g caps)) (hxs : Zdx ρ xs = some vals) (hc : T.R (.raw g (vals ++ caps) ⟨A.next, A.next, A.toks⟩ r st1)) (hb : st1.base = A.next) (hB : C.S (i + 1) = ⟨A.base, st1.next, st1.toks⟩) (h : VC T Q C (j + 1) l kill k (ρ.sets d r) b (i + 1)) : VC T Q C j (⟨d, none, .call f xs⟩ :: l) kill k ρ b i :=
  C_raw [] A.toks hx hw hl hd hs hA hf hxs (fun t => ⟨rfl, .inl rfl⟩) hb hc hB h
theorem C_alloc {A : St} {d m : Nat} {cs : List PV} (ha : C.al = some (j, d, m, cs)) (hx : C.idx j = none) (hm : Nat.ble i m = true) (hA : C.S m = A) (h : VC T Q C (j + 1) l kill k (ρ.sets (some d) (.ptr A.next 0)) true i) : VC T Q C j (⟨some d, none, .alloc cs⟩ :: l) kill k ρ false i := fun r hr => by
  subst hA
  obtain ⟨ρ1, b1, i1, h1, h2⟩ := h _ (hr.sets (some d) _)
  exact ⟨_, _, _, .dlcAlloc _ _ _ _ _ _ d m cs _ _ _ ha hx rfl rfl rfl (Nat.le_of_ble_eq_true hm) h1, h2⟩
theorem C_store {A : St} {n ka d : Nat} {cs : List PV} {x : Opd} {q : PV} (ha : C.al = some (ka, d, i, cs)) (hx : C.idx j = some i) (hl : C.link i ⟨none, none, .store n (.t d) x⟩ = true) (hd : none = C.d i) (hA : C.S i = A) (hB : C.S (i + 1) = (A.new (.var cs)).put A.next (.var q.cells)) (hp : ρ.get d = some (.ptr A.next 0)) (hxv : x.get ρ = some q) (ho : q.cells.all PV.one = true) (hn : q.cells.length = n) (hlen : cs.length = n) (h0 : 0 < n) (h : VC T Q C (j + 1) l kill k (ρ.sets none (.tuple [])) true (i + 1)) : VC T Q C j (⟨none, none, .store n (.t d) x⟩ :: l) kill k ρ true i := fun r hr => by
  subst hA
  obtain ⟨ρ1, b1, i1, h1, h2⟩ := h _ (hr.sets none (.tuple []))
  refine ⟨_, _, _, .dlcStore _ _ _ _ _ _ ka d cs (.tuple []) _ _ _ ha hx hl ?_ (by simp) hd rfl (Z66 hr ?_) h1, h2⟩
  · simp [POp.tmps, PI.tmps, Opd.tmps]
  · have hp' : (Opd.t d).get ρ = some (.ptr (C.S i).next 0) := hp
    simp only [Z4a, hp', hxv]
    rw [if_pos ⟨ho, hn, h0⟩]
    simp only [storeAt, St.get_new]
    rw [if_pos (by omega), hB]
    have hdr : List.drop n cs = [] := List.drop_eq_nil_of_le (by omega)
    simp [Z70, hn, hdr]
end
end Go.AM
namespace Go.AM
open Go.RowKit
def Bx.at (C : Bx) : Bool → St
  | false => C.A
  | true => C.B
theorem Bx.at_or (C : Bx) (q : Bool) : C.at q = C.A ∨ C.at q = C.B := by cases q <;> simp [Bx.at]
def VX (T : Tb) (Q : Z59) (C : Bx) (j : Nat) (l : List POp) (kill : List Nat) (fr : List Fr) (e : EC) (q b : Bool) : Prop :=
  ∀ ρ, Sub e ρ → ∃ ρ1 st1, T.R (.dlb C j l ρ (C.at q) b ρ1 st1 true) ∧ st1.next = C.N ∧ (∀ t ∈ C.D, Z7 t ρ1 = some (.ptr C.N 0)) ∧ W T Q fr .normal (Z29 kill ρ1) (st1.new (.var C.cs))
section
variable {T : Tb} {Q : Z59} {C : Bx} {j : Nat} {k : List Fr} {l : List POp} {kill : List Nat} {ρ : EC} {q b : Bool}
theorem V_X (C : Bx) {st : St} {x : EX} {k' : List Fr} (hS : C.A = st) (hA : C.A.next ≤ C.N) (hB : C.B.next ≤ C.N) (ha : Zi 200 k x = (.code (.drawn l kill) :: k', .normal)) (h : VX T Q C 0 l kill k' ρ false false) : V T Q k x ρ st := by
  subst hS
  refine Z38 ha fun r hr => ?_
  obtain ⟨ρ1, st1, h1, h2, h3, h4⟩ := h r hr
  exact ⟨_, _, _, .drawnB _ _ _ _ _ _ hA hB h2 h3 h1, h4⟩
theorem X_nil {st : St} (hS : C.at q = st) (hN : st.next = C.N) (hD : ∀ t ∈ C.D, ρ.get t = some (.ptr C.N 0)) (h : V T Q k .normal (.drop kill ρ) (st.new (.var C.cs))) : VX T Q C j [] kill k ρ q true := fun r hr => by
  subst hS
  exact ⟨_, _, .dlbNil _ _ _ _ _, hN, fun t ht => hr _ _ (hD t ht), h _ (hr.drop kill)⟩
theorem X_look {d : Option Nat} {op : PI} {p : PV} (hx : Nat.beq j C.m = false) (hw : C.away ⟨d, none, op⟩ = true) (hA : Zg C.A.get ρ op = some p) (hB : Zg C.B.get ρ op = some p) (h : VX T Q C (j + 1) l kill k (ρ.sets d p) q b) : VX T Q C j (⟨d, none, op⟩ :: l) kill k ρ q b := fun r hr => by
  obtain ⟨ρ1, st1, h1, h2⟩ := h _ (hr.sets d p)
  exact ⟨_, _, .dlbQuiet _ _ _ _ _ _ _ p _ _ _ (Nat.ne_of_beq_eq_false hx) hw (C.at_or q) rfl (fun s hs => by rcases hs with rfl | rfl; exact Z10 hr hA; exact Z10 hr hB) h1, h2⟩
theorem Z2w {d : Option Nat} {op : PI} {p : PV} (hx : Nat.beq j C.m = false) (hw : C.away ⟨d, none, op⟩ = true) (hq : ∀ look, Zg look ρ op = some p) (h : VX T Q C (j + 1) l kill k (ρ.sets d p) q b) : VX T Q C j (⟨d, none, op⟩ :: l) kill k ρ q b := X_look hx hw (hq _) (hq _) h
theorem Z5x {d : Option Nat} {a : Opd} {t off : Nat} {cs : List PV} {c : PV} (hx : Nat.beq j C.m = false) (hw : C.away ⟨d, none, .load 1 false a⟩ = true) (ha : a.get ρ = some (.ptr t off)) (hA : C.A.get t = some (.var cs)) (hB : C.B.get t = some (.var cs)) (hc : cs[off]? = some c) (h : VX T Q C (j + 1) l kill k (ρ.sets d c) q b) : VX T Q C j (⟨d, none, .load 1 false a⟩ :: l) kill k ρ q b := by
  have key : ∀ s : St, s.get t = some (.var cs) → Zg s.get ρ (.load 1 false a) = some c := fun s hs => by
    have hlt := (List.getElem?_eq_some_iff.1 hc).1
    simp only [Zg, Z62, ha, loadAt, behind, hs, Option.bind_some, slice?]
    rw [if_pos (by omega)]
    simpa using hc
  exact X_look hx hw (key _ hA) (key _ hB) h
theorem Z5y {d : Option Nat} {a : Opd} {t n : Nat} {cs : List PV} (hx : Nat.beq j C.m = false) (hw : C.away ⟨d, none, .load n true a⟩ = true) (ha : a.get ρ = some (.ptr t 0)) (hA : C.A.get t = some (.var cs)) (hB : C.B.get t = some (.var cs)) (hl : cs.length = n) (h : VX T Q C (j + 1) l kill k (ρ.sets d (.agg cs)) q b) : VX T Q C j (⟨d, none, .load n true a⟩ :: l) kill k ρ q b := by
  have key : ∀ s : St, s.get t = some (.var cs) → Zg s.get ρ (.load n true a) = some (.agg cs) := fun s hs => by
    simp only [Zg, Z62, ha, loadAt, behind, hs]
    subst hl
    simp [slice?]
  exact X_look hx hw (key _ hA) (key _ hB) h
theorem X_raw {d : Option Nat} {f : Opd} {xs : List Opd} {g : Nat} {caps vals : List PV} (q τ : List (Nat × Tok)) {r : PV} {st1 : St} (hx : Nat.beq j C.m = true) (hw : C.away ⟨d, none, .call f xs⟩ = true) (hf : f.get ρ = some (.func g caps)) (hxs : Zdx ρ xs = some vals) (hp : Z6k C.A q τ) (hb : st1.base = C.A.next) (hc : T.R (.raw g (vals ++ caps) (Z1p C.A τ) r st1)) (hB : C.B = Z15 C.A q st1) (h : VX T Q C (j + 1) l kill k (ρ.sets d r) true b) : VX T Q C j (⟨d, none, .call f xs⟩ :: l) kill k ρ false b := fun e he => by
  have hj := Nat.eq_of_beq_eq_true hx
  subst hj
  obtain ⟨ρ1, st2, h1, h2⟩ := h _ (he.sets d r)
  exact ⟨_, _, .dlbRaw _ _ _ _ _ _ _ _ _ q τ _ _ _ _ _ hw rfl rfl (Opd.ev_of he hf) hp hb hB (by rw [Z33 he hxs]; exact hc) h1, h2⟩
theorem X_rawAll {d : Option Nat} {f : Opd} {xs : List Opd} {g : Nat} {caps vals : List PV} {r : PV} {A st1 : St} (hx : Nat.beq j C.m = true) (hw : C.away ⟨d, none, .call f xs⟩ = true) (hf : f.get ρ = some (.func g caps)) (hxs : Zdx ρ xs = some vals) (hA : C.A = A) (hc : T.R (.raw g (vals ++ caps) ⟨A.next, A.next, A.toks⟩ r st1)) (hb : st1.base = A.next) (hB : C.B = ⟨A.base, st1.next, st1.toks⟩) (h : VX T Q C (j + 1) l kill k (ρ.sets d r) true b) : VX T Q C j (⟨d, none, .call f xs⟩ :: l) kill k ρ false b := by
  subst hA
  exact X_raw [] C.A.toks hx hw hf hxs (fun t => ⟨rfl, .inl rfl⟩) hb hc hB h
theorem Zgm {d : Nat} {x : Opd} {p : PV} (hd : Nat.beq d C.d = true) (hdD : C.D.contains C.d = true) (hx : x.tmps.all (fun t => !(C.D.contains t)) = true) (hp : x.get ρ = some p) (hj : p.isJunk = false) (hcs : p.cells = C.cs) (hpl : ∀ c ∈ C.cs, Pl c) (h : VX T Q C (j + 1) l kill k (ρ.sets (some d) (.ptr C.N 0)) q true) : VX T Q C j (⟨some d, none, .box x⟩ :: l) kill k ρ q false := fun r hr => by
  have hdd := Nat.eq_of_beq_eq_true hd
  subst hdd
  obtain ⟨ρ1, st1, h1, h2⟩ := h _ (hr.sets (some C.d) _)
  have he := Opd.ev_of hr hp
  exact ⟨_, _, .dlbBox _ _ _ _ _ _ x _ _ _ (C.at_or q) rfl rfl (by simpa using hdD) rfl (fun t ht hD => by have := List.all_eq_true.1 hx t ht; simp [hD] at this) (by rw [he]; exact hj) (by rw [he]; exact hcs) (fun look c hc => (hpl c hc).view) h1, h2⟩
theorem Z99 {e d : Nat} (heD : C.D.contains e = true) (hne : Nat.beq e C.d = false) (hdD : C.D.contains C.d = true) (hd : Nat.beq d C.d = true) (hy : ρ.get C.d = some (.ptr C.N 0)) (h : VX T Q C (j + 1) l kill k (ρ.sets (some e) (.ptr C.N 0)) q true) : VX T Q C j (⟨some e, none, .move (.t d)⟩ :: l) kill k ρ q true := fun r hr => by
  have hdd := Nat.eq_of_beq_eq_true hd
  subst hdd
  obtain ⟨ρ1, st1, h1, h2⟩ := h _ (hr.sets (some e) _)
  exact ⟨_, _, .dlbMove _ _ _ _ _ _ e _ _ _ (C.at_or q) rfl rfl (by simpa using heD) (Nat.ne_of_beq_eq_false hne) (by simpa using hdD) rfl (hr _ _ hy) h1, h2⟩
end
end Go.AM
