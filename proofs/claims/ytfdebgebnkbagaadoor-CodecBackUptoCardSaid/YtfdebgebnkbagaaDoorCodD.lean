/- bytes.ReplaceAll of a nought by a nought and 255. -/
import Derived.Test.YtfdebgebnkbagaaDoorBytes
import Derived.Test.YtfdebgebnkbagaaDoorAmZ
set_option linter.unusedVariables false
set_option linter.unusedSimpArgs false
namespace Go.Proofs.YtfdebgebnkbagaaDoor
open Go Go.AM Go.RowKit
def esc (s : List UInt8) : List UInt8 := s.flatMap fun b => if b = 0 then [0, 255] else [b]
theorem esc_append (a b : List UInt8) : esc (a ++ b) = esc a ++ esc b := by simp [esc]
theorem esc_length : ∀ s : List UInt8, (esc s).length = s.length + s.count 0
  | [] => rfl
  | b :: s => by
    have ih := esc_length s
    unfold esc at ih ⊢
    rw [List.flatMap_cons, List.length_append, ih, List.count_cons]
    by_cases h : b = 0
    · subst h; simp; omega
    · simp [h]; omega
theorem esc_none : ∀ {s : List UInt8}, s.count 0 = 0 → esc s = s
  | [], _ => rfl
  | b :: s, h => by
    rw [List.count_cons] at h
    have hb : b ≠ 0 := by rintro rfl; simp at h
    have ih := esc_none (s := s) (by omega)
    unfold esc at ih ⊢
    rw [List.flatMap_cons, ih]
    simp [hb]
theorem idx_spec : ∀ a : List UInt8, (Lib.indexByte a 0 = -1 ∧ a.count 0 = 0) ∨ ∃ x y, a = x ++ 0 :: y ∧ x.count 0 = 0 ∧ Lib.indexByte a 0 = x.length
  | [] => .inl ⟨rfl, rfl⟩
  | b :: a => by
    by_cases hb : b = 0
    · subst hb
      exact .inr ⟨[], a, rfl, rfl, rfl⟩
    · unfold Lib.indexByte
      rw [if_neg (by simpa using hb)]
      rcases idx_spec a with ⟨h1, h2⟩ | ⟨x, y, rfl, h2, h3⟩
      · rw [h1]
        exact .inl ⟨rfl, by rw [List.count_cons, h2]; simp [hb]⟩
      · refine .inr ⟨b :: x, y, rfl, by rw [List.count_cons, h2]; simp [hb], ?_⟩
        rw [h3, if_neg (by simp)]
        simp
theorem run_IndexByte {p : PV} {a : List UInt8} (hp : BV p a) (c : Int) : T.R (.call n_bytes_IndexByte [p, .int .u8 c] (.int .i64 (Lib.indexByte a c.toNat.toUInt8))) := by
  have hx : T.ext n_bytealg_IndexByte [p, .int .u8 c] (.int .i64 (Lib.indexByte a c.toNat.toUInt8)) := .inr (.inr (.inl ⟨rfl, p, a, c, rfl, hp, rfl⟩))
  generalize Lib.indexByte a c.toNat.toUInt8 = r at hx ⊢
  have plp := hp.pl
  refine call_V rfl rfl ?_
  repeat' first | refine O_extP rfl rfl (viewL_pl (by (repeat' (first | exact Pl.int _ _ | exact Pl.bool _ | exact Pl.str _ | exact Pl.nilSl | exact pl_nil | refine pl_cons ?_ ?_ | refine Pl.tuple _ ?_ | refine Pl.agg _ ?_ | refine Pl.func _ _ ?_ | assumption | refine Pl.iptr _ _ ?_ | exact pll_nil | refine pll_cons ?_ ?_ | refine Pl.sl _ _ ?_)); first | done | fail)) rfl hx ?_ | refine V_O rfl ?_ | refine O_step rfl ?_ | refine O_nil' ?_ | refine V_cT rfl rfl ?_ | refine V_cF rfl rfl ?_ | refine V_cEq rfl rfl ?_ | refine V_cNe rfl rfl ?_ | refine V_cB rfl rfl (fun _ => ?_) (fun _ => ?_) | refine O_gT' rfl ?_ | refine O_gU' rfl ?_ | refine O_gF' rfl rfl ?_ | refine O_gEq rfl ?_ | refine O_gNe rfl ?_ | refine O_gS rfl (fun _ => ?_) (fun _ => ?_) | refine V_fA rfl rfl ?_ | refine V_fAN rfl rfl ?_ | refine V_D rfl ?_ | refine D_step rfl ?_ | refine D_nil' ?_ | refine D_gT' rfl ?_ | refine D_gU' rfl ?_ | refine D_gF' rfl rfl ?_ | refine D_gS rfl (fun _ => ?_) (fun _ => ?_)
  rfl
theorem run_Index1 {p : PV} {a : List UInt8} (hp : BV p a) (f : Bool) : T.R (.call n_bytes_Index [p, .sl [[.int .u8 0]] f] (.int .i64 (Lib.indexByte a 0))) := by
  have hx := run_IndexByte hp 0
  rw [show (0 : Int).toNat.toUInt8 = 0 from rfl] at hx
  generalize Lib.indexByte a 0 = r at hx ⊢
  have plp := hp.pl
  refine call_V rfl rfl ?_
  repeat' first | refine O_cA rfl rfl hx ?_ | refine V_O rfl ?_ | refine O_step rfl ?_ | refine O_nil' ?_ | refine V_cT rfl rfl ?_ | refine V_cF rfl rfl ?_ | refine V_cEq rfl rfl ?_ | refine V_cNe rfl rfl ?_ | refine V_cB rfl rfl (fun _ => ?_) (fun _ => ?_) | refine O_gT' rfl ?_ | refine O_gU' rfl ?_ | refine O_gF' rfl rfl ?_ | refine O_gEq rfl ?_ | refine O_gNe rfl ?_ | refine O_gS rfl (fun _ => ?_) (fun _ => ?_) | refine V_fA rfl rfl ?_ | refine V_fAN rfl rfl ?_ | refine V_D rfl ?_ | refine D_step rfl ?_ | refine D_nil' ?_ | refine D_gT' rfl ?_ | refine D_gU' rfl ?_ | refine D_gF' rfl rfl ?_ | refine D_gS rfl (fun _ => ?_) (fun _ => ?_)
  rfl
theorem run_Count1 {p : PV} {a : List UInt8} (hp : BV p a) (f : Bool) : T.R (.call n_bytes_Count [p, .sl [[.int .u8 0]] f] (.int .i64 (a.count 0 : Nat))) := by
  have hx : T.ext n_bytealg_Count [p, .int .u8 0] (.int .i64 (a.count 0 : Nat)) := .inr (.inr (.inr ⟨rfl, p, a, 0, rfl, hp, rfl⟩))
  generalize ((a.count 0 : Nat) : Int) = r at hx ⊢
  have plp := hp.pl
  refine call_V rfl rfl ?_
  repeat' first | refine O_extP rfl rfl (viewL_pl (by (repeat' (first | exact Pl.int _ _ | exact Pl.bool _ | exact Pl.str _ | exact Pl.nilSl | exact pl_nil | refine pl_cons ?_ ?_ | refine Pl.tuple _ ?_ | refine Pl.agg _ ?_ | refine Pl.func _ _ ?_ | assumption | refine Pl.iptr _ _ ?_ | exact pll_nil | refine pll_cons ?_ ?_ | refine Pl.sl _ _ ?_)); first | done | fail)) rfl hx ?_ | refine V_O rfl ?_ | refine O_step rfl ?_ | refine O_nil' ?_ | refine V_cT rfl rfl ?_ | refine V_cF rfl rfl ?_ | refine V_cEq rfl rfl ?_ | refine V_cNe rfl rfl ?_ | refine V_cB rfl rfl (fun _ => ?_) (fun _ => ?_) | refine O_gT' rfl ?_ | refine O_gU' rfl ?_ | refine O_gF' rfl rfl ?_ | refine O_gEq rfl ?_ | refine O_gNe rfl ?_ | refine O_gS rfl (fun _ => ?_) (fun _ => ?_) | refine V_fA rfl rfl ?_ | refine V_fAN rfl rfl ?_ | refine V_D rfl ?_ | refine D_step rfl ?_ | refine D_nil' ?_ | refine D_gT' rfl ?_ | refine D_gU' rfl ?_ | refine D_gF' rfl rfl ?_ | refine D_gS rfl (fun _ => ?_) (fun _ => ?_)
  rfl
def rowS (es : List (List PV)) : St := ⟨0, 1, [(0, .row 0 1 es true)]⟩
def zr (k : Nat) : List (List PV) := List.replicate k [.int .u8 0]
theorem copyR (a b : List UInt8) (k N : Nat) (hN : N = a.length + k) (hb : b.length ≤ k) (f : Bool) :
    copyTo (rowS (byteCells a ++ zr k)) 1 (.osl 0 0 a.length (N - a.length) f) (byteCells b) = some (.int .i64 b.length, rowS (byteCells (a ++ b) ++ zr (k - b.length))) := by
  rw [copy_own (g := 0) (es := byteCells a ++ zr k) rfl (by simp [byteCells, zr]; omega) (by rw [byteCells_length]; omega)]
  rw [byteCells_length]
  congr 2
  have e1 : (byteCells a ++ zr k).take a.length = byteCells a := by
    rw [← byteCells_length a, List.take_left]
  have e2 : (byteCells a ++ zr k).drop (a.length + b.length) = zr (k - b.length) := by
    rw [← byteCells_length a, ← List.drop_drop, List.drop_left]
    simp [zr]
  rw [e1, e2, byteCells_append]
  rfl
theorem winR (es : List (List PV)) (w N : Nat) (hw : w ≤ N) : sliceSl? (rowS es).get 1 (some (.int .i64 (w : Int))) none none (.osl 0 0 0 N false) = some (.osl 0 0 w (N - w) false) := by
  rw [slice_osl_lo (look := (rowS es).get) (sz := 1) (es := es) (lv := true) rfl (by omega) (by omega)]
  simp
def eR (p oldV newV : PV) (N : Nat) (done : List UInt8) : EC := .put 0 p (.put 10 (.osl 0 0 0 N false) (.put 11 (.int .i64 (esc done).length) (.put 12 (.int .i64 done.length) .nil)))
def replP (p : PV) (s : List UInt8) (N : Nat) : EX → EC → St → Prop := fun x e' st' => x = .exit 0 ∧ ∃ done rest, s = done ++ rest ∧ rest.count 0 = 0 ∧ e' = eR p .junk .junk N done ∧ st' = rowS (byteCells (esc done) ++ zr (N - (esc done).length))
theorem repl_loop (p : PV) (s : List UInt8) (hp : BV p s) (N : Nat) (hN : N = s.length + s.count 0) (hs : s.length ≤ 1000) (fo fn : Bool) :
    ∀ (c : Nat) (done rest : List UInt8) (e : EC), s = done ++ rest → rest.count 0 = c → e.get 0 = some p → e.get 1 = some (.sl [[.int .u8 0]] fo) → e.get 2 = some (.sl [[.int .u8 0], [.int .u8 255]] fn) → e.get 10 = some (.osl 0 0 0 N false) → e.get 11 = some (.int .i64 (esc done).length) → e.get 12 = some (.int .i64 done.length) → e.get 48 = some (.int .i64 (s.count 0 : Nat)) → e.get 49 = some (.int .i64 (done.count 0 : Nat)) →
    V T (PE (replP p s N)) [.code (.loop lp_bytes_Replace_1)] .normal e (rowS (byteCells (esc done) ++ zr (N - (esc done).length))) := by
  have hcl : s.count 0 ≤ s.length := List.count_le_length
  intro c
  induction c with
  | zero =>
    intro done rest e hsd hc h0 h1 h2 h10 h11 h12 h48 h49
    have hcd : done.count 0 = s.count 0 := by rw [hsd, List.count_append]; omega
    have out : ∀ (fr : List Fr) (x : EX) (e' : EC), adv 200 fr x = ([], .exit 0) → e'.get 0 = some p → e'.get 10 = some (.osl 0 0 0 N false) → e'.get 11 = some (.int .i64 (esc done).length) → e'.get 12 = some (.int .i64 done.length) → V T (PE (replP p s N)) fr x e' (rowS (byteCells (esc done) ++ zr (N - (esc done).length))) := fun fr x e' hadv g0 g10 g11 g12 =>
      V_less (eR p .junk .junk N done) (less_put g0 (less_put g10 (less_put g11 (less_put g12 less_nil)))) (V_endP hadv ⟨rfl, done, rest, hsd, hc, rfl, rfl⟩)
    have hlt : decide (((done.count 0 : Nat) : Int) < (s.count 0 : Nat)) = false := decide_eq_false (by omega)
    refine V_less (.put 0 p (.put 10 _ (.put 11 _ (.put 12 _ (.put 48 _ (.put 49 _ .nil)))))) (less_put h0 (less_put h10 (less_put h11 (less_put h12 (less_put h48 (less_put h49 less_nil)))))) (V_unroll ?_)
    repeat' first | refine V_cH hlt rfl rfl ?_ | refine out _ _ _ rfl rfl rfl rfl rfl | refine V_O rfl ?_ | refine O_step rfl ?_ | refine O_nil' ?_ | refine V_cT rfl rfl ?_ | refine V_cF rfl rfl ?_ | refine V_cEq rfl rfl ?_ | refine V_cNe rfl rfl ?_ | refine V_cB rfl rfl (fun _ => ?_) (fun _ => ?_) | refine O_gT' rfl ?_ | refine O_gU' rfl ?_ | refine O_gF' rfl rfl ?_ | refine O_gEq rfl ?_ | refine O_gNe rfl ?_ | refine O_gS rfl (fun _ => ?_) (fun _ => ?_) | refine V_fA rfl rfl ?_ | refine V_fAN rfl rfl ?_ | refine V_D rfl ?_ | refine D_step rfl ?_ | refine D_nil' ?_ | refine D_gT' rfl ?_ | refine D_gU' rfl ?_ | refine D_gF' rfl rfl ?_ | refine D_gS rfl (fun _ => ?_) (fun _ => ?_)
  | succ c ih =>
    intro done rest e hsd hc h0 h1 h2 h10 h11 h12 h48 h49
    have hcd : done.count 0 + (c + 1) = s.count 0 := by rw [hsd, List.count_append]; omega
    have hlt : decide (((done.count 0 : Nat) : Int) < (s.count 0 : Nat)) = true := decide_eq_true (by omega)
    rcases idx_spec rest with ⟨_, h⟩ | ⟨x, y, hxy, hx0, hidx⟩
    · omega
    have hdl : done.length + x.length + 1 ≤ s.length := by rw [hsd, hxy]; simp; omega
    have hel : (esc done).length + x.length + 2 ≤ N := by
      rw [esc_length, hN, hsd, hxy]; simp [List.count_append]; omega
    obtain ⟨v1, hv1, hb1⟩ := hp.lo (rowS (byteCells (esc done) ++ zr (N - (esc done).length))).get (k := .i64) (m := done.length) (by omega) (by omega)
    rw [Int.toNat_natCast, hsd, List.drop_left] at hb1
    have hcall := run_Index1 hb1 fo
    rw [hidx] at hcall
    have pl1 := hb1.pl
    have hj : IntKind.i64.wrap ((done.length : Int) + x.length) = ((done.length + x.length : Nat) : Int) := by rw [wrap_i64]; omega
    have hwin := winR (byteCells (esc done) ++ zr (N - (esc done).length)) (esc done).length N (by omega)
    have hwinB := winR (byteCells (esc done ++ x) ++ zr (N - (esc done).length - x.length)) (esc done).length N (by omega)
    obtain ⟨v2, hv2, hb2⟩ := hp.lohi (rowS (byteCells (esc done) ++ zr (N - (esc done).length))).get (k := .i64) (k' := .i64) (m := done.length) (m' := ((done.length + x.length : Nat) : Int)) (by omega) (by omega) (by omega)
    obtain ⟨v3, hv3, hb3⟩ := hp.lohi (rowS (byteCells (esc done ++ x) ++ zr (N - (esc done).length - x.length))).get (k := .i64) (k' := .i64) (m := done.length) (m' := ((done.length + x.length : Nat) : Int)) (by omega) (by omega) (by omega)
    have hv23 : v3 = v2 := by
      cases hp with
      | nil => exfalso; simp at hdl
      | sl s f => simp only [sliceSl?] at hv2 hv3; rw [hv2] at hv3; injection hv3 with hv3; exact hv3.symm
    subst hv23
    rw [← hj] at hv2 hv3
    have hb2' : BV v3 x := by
      have : (s.drop (done.length : Int).toNat).take (((done.length + x.length : Nat) : Int).toNat - (done.length : Int).toNat) = x := by
        rw [hsd, hxy, Int.toNat_natCast, Int.toNat_natCast, List.drop_left, Nat.add_sub_cancel_left, List.take_left]
      rw [this] at hb2
      exact hb2
    have hcp := copyR (esc done) x (N - (esc done).length) N (by omega) (by omega) false
    have hw1 : IntKind.i64.wrap (((esc done).length : Int) + x.length) = ((esc done ++ x).length : Int) := by rw [wrap_i64]; simp; omega
    have hwin2 := winR (byteCells (esc done ++ x) ++ zr (N - (esc done).length - x.length)) (esc done ++ x).length N (by simp; omega)
    rw [← hw1] at hwin2
    have hcp2 := copyR (esc done ++ x) [0, 255] (N - (esc done).length - x.length) N (by simp; omega) (by simp; omega) false
    have hed : esc done ++ x ++ [0, 255] = esc (done ++ x ++ [0]) := by
      rw [esc_append, esc_append, esc_none hx0]; rfl
    rw [hed] at hcp2
    have hzz : N - (esc done).length - x.length - [(0 : UInt8), 255].length = N - (esc (done ++ x ++ [0])).length := by rw [← hed]; simp; omega
    rw [hzz] at hcp2
    have hw2 : IntKind.i64.wrap (IntKind.i64.wrap (((esc done).length : Int) + x.length) + ([(0 : UInt8), 255].length : Nat)) = ((esc (done ++ x ++ [0])).length : Int) := by rw [hw1, ← hed, wrap_i64]; simp; omega
    have hw3 : IntKind.i64.wrap (IntKind.i64.wrap ((done.length : Int) + x.length) + 1) = ((done ++ x ++ [0]).length : Int) := by rw [hj, wrap_i64]; simp; omega
    have hw4 : IntKind.i64.wrap (((done.count 0 : Nat) : Int) + 1) = (((done ++ x ++ [0]).count 0 : Nat) : Int) := by
      rw [List.count_append, List.count_append, hx0, wrap_i64]; simp; omega
    have fin : ∀ (fr : List Fr) (xx : EX) (e' : EC), adv 200 fr xx = ([.code (.loop lp_bytes_Replace_1)], .normal) → e'.get 0 = some p → e'.get 1 = some (.sl [[.int .u8 0]] fo) → e'.get 2 = some (.sl [[.int .u8 0], [.int .u8 255]] fn) → e'.get 10 = some (.osl 0 0 0 N false) → e'.get 11 = some (.int .i64 (IntKind.i64.wrap (IntKind.i64.wrap (((esc done).length : Int) + x.length) + ([(0 : UInt8), 255].length : Nat)))) → e'.get 12 = some (.int .i64 (IntKind.i64.wrap (IntKind.i64.wrap ((done.length : Int) + x.length) + 1))) → e'.get 48 = some (.int .i64 (s.count 0 : Nat)) → e'.get 49 = some (.int .i64 (IntKind.i64.wrap (((done.count 0 : Nat) : Int) + 1))) →
        V T (PE (replP p s N)) fr xx e' (rowS (byteCells (esc (done ++ x ++ [0])) ++ zr (N - (esc (done ++ x ++ [0])).length))) := fun fr xx e' hadv g0 g1 g2 g10 g11 g12 g48 g49 => V_adv hadv (by
      rw [hw2] at g11
      rw [hw3] at g12
      rw [hw4] at g49
      exact ih (done ++ x ++ [0]) y e' (by rw [hsd, hxy]; simp) (by rw [hxy, List.count_append, List.count_cons] at hc; simp at hc; omega) g0 g1 g2 g10 g11 g12 g48 g49)
    refine V_less (.put 0 p (.put 1 _ (.put 2 _ (.put 10 _ (.put 11 _ (.put 12 _ (.put 48 _ (.put 49 _ .nil)))))))) (less_put h0 (less_put h1 (less_put h2 (less_put h10 (less_put h11 (less_put h12 (less_put h48 (less_put h49 less_nil)))))))) (V_unroll ?_)
    clear ih
    repeat' first | refine V_cHT hlt rfl rfl ?_ | refine O_slice v1 rfl rfl rfl rfl hv1 ?_ | refine O_cA rfl rfl hcall ?_ | refine V_M 8 (rowS (byteCells (esc done ++ x) ++ zr (N - (esc done).length - x.length))) rfl ?_ | refine M_slice _ rfl (.inl rfl) rfl rfl rfl rfl hwin hwinB ?_ | refine M_slice v3 rfl (.inl rfl) rfl rfl rfl rfl hv2 hv3 ?_ | refine M_copy rfl rfl rfl (srcOf_bytes hb2') (okEls_bytes _) (by decide) hcp ?_ | refine M_step rfl (.inl rfl) rfl rfl ?_ | refine M_step rfl (.inr rfl) rfl rfl ?_ | refine M_nil ?_ | refine O_slice _ rfl rfl rfl rfl hwin2 ?_ | refine O_copy (src := byteCells [0, 255]) rfl rfl rfl (okEls_bytes _) (by decide) hcp2 ?_ | refine fin _ _ _ rfl rfl rfl rfl rfl rfl rfl rfl rfl | refine V_O rfl ?_ | refine O_step rfl ?_ | refine O_nil' ?_ | refine V_cT rfl rfl ?_ | refine V_cF rfl rfl ?_ | refine V_cEq rfl rfl ?_ | refine V_cNe rfl rfl ?_ | refine V_cB rfl rfl (fun _ => ?_) (fun _ => ?_) | refine O_gT' rfl ?_ | refine O_gU' rfl ?_ | refine O_gF' rfl rfl ?_ | refine O_gEq rfl ?_ | refine O_gNe rfl ?_ | refine O_gS rfl (fun _ => ?_) (fun _ => ?_) | refine V_fA rfl rfl ?_ | refine V_fAN rfl rfl ?_ | refine V_D rfl ?_ | refine D_step rfl ?_ | refine D_nil' ?_ | refine D_gT' rfl ?_ | refine D_gU' rfl ?_ | refine D_gF' rfl rfl ?_ | refine D_gS rfl (fun _ => ?_) (fun _ => ?_)
theorem run_Replace (s : List UInt8) (hs : s.length ≤ 1000) (f0 fo fn : Bool) : ∃ q, T.R (.call n_bytes_ReplaceAll [.sl (byteCells s) f0, .sl [[.int .u8 0]] fo, .sl [[.int .u8 0], [.int .u8 255]] fn] q) ∧ BV q (esc s) := by
  have hp : BV (.sl (byteCells s) f0) s := .sl s f0
  have hcl : s.count 0 ≤ s.length := List.count_le_length
  have hc := run_Count1 hp fo
  have plp := hp.pl
  have key : ∃ q, T.R (.call n_bytes_Replace [.sl (byteCells s) f0, .sl [[.int .u8 0]] fo, .sl [[.int .u8 0], [.int .u8 255]] fn, .int .i64 (-1)] q) ∧ BV q (esc s) := by
    refine call_VQ rfl rfl ?_
    by_cases h0 : s.count 0 = 0
    · rw [h0] at hc
      have he := esc_none h0
      cases s with
      | nil =>
        repeat' first | refine O_cA rfl rfl hc ?_ | refine O_append rfl rfl (srcOf_bytes hp) (okEls_bytes _) (by decide) (by decide) (appendTo_none (.inl rfl)) ?_ | refine V_O rfl ?_ | refine O_step rfl ?_ | refine O_nil' ?_ | refine V_cT rfl rfl ?_ | refine V_cF rfl rfl ?_ | refine V_cEq rfl rfl ?_ | refine V_cNe rfl rfl ?_ | refine V_cB rfl rfl (fun _ => ?_) (fun _ => ?_) | refine O_gT' rfl ?_ | refine O_gU' rfl ?_ | refine O_gF' rfl rfl ?_ | refine O_gEq rfl ?_ | refine O_gNe rfl ?_ | refine O_gS rfl (fun _ => ?_) (fun _ => ?_) | refine V_fA rfl rfl ?_ | refine V_fAN rfl rfl ?_ | refine V_D rfl ?_ | refine D_step rfl ?_ | refine D_nil' ?_ | refine D_gT' rfl ?_ | refine D_gU' rfl ?_ | refine D_gF' rfl rfl ?_ | refine D_gS rfl (fun _ => ?_) (fun _ => ?_)
        exact .nil
      | cons b s =>
        have k1 := appendTo_nil (st := emptySt) (sz := 1) (bytes := 1) (src := byteCells (b :: s)) (by simp [byteCells]) (by rw [byteCells_length]; simp [roomLen]; simp at hs; omega)
        repeat' first | refine O_cA rfl rfl hc ?_ | refine O_append rfl rfl (srcOf_bytes hp) (okEls_bytes _) (by decide) (by decide) k1 ?_ | refine V_O rfl ?_ | refine O_step rfl ?_ | refine O_nil' ?_ | refine V_cT rfl rfl ?_ | refine V_cF rfl rfl ?_ | refine V_cEq rfl rfl ?_ | refine V_cNe rfl rfl ?_ | refine V_cB rfl rfl (fun _ => ?_) (fun _ => ?_) | refine O_gT' rfl ?_ | refine O_gU' rfl ?_ | refine O_gF' rfl rfl ?_ | refine O_gEq rfl ?_ | refine O_gNe rfl ?_ | refine O_gS rfl (fun _ => ?_) (fun _ => ?_) | refine V_fA rfl rfl ?_ | refine V_fAN rfl rfl ?_ | refine V_D rfl ?_ | refine D_step rfl ?_ | refine D_nil' ?_ | refine D_gT' rfl ?_ | refine D_gU' rfl ?_ | refine D_gF' rfl rfl ?_ | refine D_gS rfl (fun _ => ?_) (fun _ => ?_)
        refine V_fin (r := .sl (byteCells (b :: s)) false) rfl rfl (view_osl0 (g := 0) (sz := 1) (lv := true) (es := byteCells (b :: s)) rfl (.inl rfl) rfl (pl_bytes _)) ?_
        rw [he]
        exact .sl _ _
    · have hne : decide (((s.count 0 : Nat) : Int) = 0) = false := decide_eq_false (by omega)
      have hN : IntKind.i64.wrap ((s.length : Int) + IntKind.i64.wrap (((s.count 0 : Nat) : Int) * IntKind.i64.wrap (((2 : Nat) : Int) - ((1 : Nat) : Int)))) = ((s.length + s.count 0 : Nat) : Int) := by
        rw [wrap_i64, wrap_i64, wrap_i64]; omega
      have hl := fun e h0 h1 h2 h10 h11 h12 h48 h49 => repl_loop (.sl (byteCells s) f0) s hp (s.length + s.count 0) rfl hs fo fn (s.count 0) [] s e rfl rfl h0 h1 h2 h10 h11 h12 h48 h49
      repeat' first | refine V_cH hne rfl rfl ?_ | refine O_cA rfl rfl hc ?_ | refine O_lenB rfl hp ?_ | refine O_makeN rfl rfl hN rfl (by simp [roomLen]; omega) ?_ | refine V_cutA rfl (hl _ rfl rfl rfl rfl rfl rfl rfl rfl) ?_ | refine V_O rfl ?_ | refine O_step rfl ?_ | refine O_nil' ?_ | refine V_cT rfl rfl ?_ | refine V_cF rfl rfl ?_ | refine V_cEq rfl rfl ?_ | refine V_cNe rfl rfl ?_ | refine V_cB rfl rfl (fun _ => ?_) (fun _ => ?_) | refine O_gT' rfl ?_ | refine O_gU' rfl ?_ | refine O_gF' rfl rfl ?_ | refine O_gEq rfl ?_ | refine O_gNe rfl ?_ | refine O_gS rfl (fun _ => ?_) (fun _ => ?_) | refine V_fA rfl rfl ?_ | refine V_fAN rfl rfl ?_ | refine V_D rfl ?_ | refine D_step rfl ?_ | refine D_nil' ?_ | refine D_gT' rfl ?_ | refine D_gU' rfl ?_ | refine D_gF' rfl rfl ?_ | refine D_gS rfl (fun _ => ?_) (fun _ => ?_)
      rintro x e' st' ⟨rfl, done, rest, hsd, hrest, rfl, rfl⟩
      have hel : (esc done).length + rest.length = s.length + s.count 0 := by
        rw [esc_length, hsd, List.count_append, List.length_append]; omega
      have hes : esc s = esc done ++ rest := by rw [hsd, esc_append, esc_none hrest]
      have hwin := winR (byteCells (esc done) ++ zr (s.length + s.count 0 - (esc done).length)) (esc done).length (s.length + s.count 0) (by omega)
      have hwinB := winR (byteCells (esc done ++ rest) ++ zr (s.length + s.count 0 - (esc done).length - rest.length)) (esc done).length (s.length + s.count 0) (by omega)
      have hdl : done.length ≤ s.length := by rw [hsd]; simp
      have hv2 := slice_lo (look := (rowS (byteCells (esc done) ++ zr (s.length + s.count 0 - (esc done).length))).get) (sz := 1) (k := .i64) (lo := done.length) (xs := byteCells s) (f := f0) (allOf_bytes s) (by omega) (by rw [byteCells_length]; omega)
      have hv3 := slice_lo (look := (rowS (byteCells (esc done ++ rest) ++ zr (s.length + s.count 0 - (esc done).length - rest.length))).get) (sz := 1) (k := .i64) (lo := done.length) (xs := byteCells s) (f := f0) (allOf_bytes s) (by omega) (by rw [byteCells_length]; omega)
      have hdr : (byteCells s).drop ((done.length : Int).toNat) = byteCells rest := by
        rw [Int.toNat_natCast, byteCells_drop, hsd, List.drop_left]
      rw [hdr] at hv2 hv3
      have hcp := copyR (esc done) rest (s.length + s.count 0 - (esc done).length) (s.length + s.count 0) (by omega) (by omega) false
      have hw1 : IntKind.i64.wrap (((esc done).length : Int) + rest.length) = ((s.length + s.count 0 : Nat) : Int) := by rw [wrap_i64]; omega
      have hv4 := slice_osl (look := (rowS (byteCells (esc done ++ rest) ++ zr (s.length + s.count 0 - (esc done).length - rest.length))).get) (sz := 1) (t := 0) (g := 0) (off := 0) (len := s.length + s.count 0) (k := .i64) (k' := .i64) (lo := 0) (hi := IntKind.i64.wrap (((esc done).length : Int) + rest.length)) (f := false) (lv := true) (es := byteCells (esc done ++ rest) ++ zr (s.length + s.count 0 - (esc done).length - rest.length)) rfl (by omega) (by rw [hw1]; omega) (by rw [hw1]; omega)
      have hrow : byteCells (esc done ++ rest) ++ zr (s.length + s.count 0 - (esc done).length - rest.length) = byteCells (esc s) := by
        rw [hes, show s.length + s.count 0 - (esc done).length - rest.length = 0 by omega]; simp [zr]
      have hoff : (0 : Nat) + (0 : Int).toNat = 0 := rfl
      rw [hw1, Int.toNat_natCast] at hv4
      rw [← hw1] at hv4
      repeat' first | refine V_M 7 (rowS (byteCells (esc done ++ rest) ++ zr (s.length + s.count 0 - (esc done).length - rest.length))) rfl ?_ | refine M_slice _ rfl (.inl rfl) rfl rfl rfl rfl hwin hwinB ?_ | refine M_slice _ rfl (.inl rfl) rfl rfl rfl rfl hv2 hv3 ?_ | refine M_copy (src := byteCells rest) rfl rfl rfl rfl (okEls_bytes _) (by decide) hcp ?_ | refine M_step rfl (.inl rfl) rfl rfl ?_ | refine M_step rfl (.inr rfl) rfl rfl ?_ | refine M_nil ?_ | refine O_slice _ rfl rfl rfl rfl hv4 ?_ | refine V_O rfl ?_ | refine O_step rfl ?_ | refine O_nil' ?_ | refine V_cT rfl rfl ?_ | refine V_cF rfl rfl ?_ | refine V_cEq rfl rfl ?_ | refine V_cNe rfl rfl ?_ | refine V_cB rfl rfl (fun _ => ?_) (fun _ => ?_) | refine O_gT' rfl ?_ | refine O_gU' rfl ?_ | refine O_gF' rfl rfl ?_ | refine O_gEq rfl ?_ | refine O_gNe rfl ?_ | refine O_gS rfl (fun _ => ?_) (fun _ => ?_) | refine V_fA rfl rfl ?_ | refine V_fAN rfl rfl ?_ | refine V_D rfl ?_ | refine D_step rfl ?_ | refine D_nil' ?_ | refine D_gT' rfl ?_ | refine D_gU' rfl ?_ | refine D_gF' rfl rfl ?_ | refine D_gS rfl (fun _ => ?_) (fun _ => ?_)
      refine V_fin (r := .sl (byteCells (esc s)) false) rfl rfl (view_osl0 (g := 0) (sz := 1) (lv := true) (es := byteCells (esc s)) (by rw [← hrow]; rfl) (.inl rfl) (by rw [byteCells_length, hes]; simp; omega) (pl_bytes _)) ?_
      exact .sl _ _
  obtain ⟨q, h1, h2⟩ := key
  have plq := h2.pl
  refine ⟨q, call_V rfl rfl ?_, h2⟩
  repeat' first | refine O_cA rfl rfl h1 ?_ | refine V_O rfl ?_ | refine O_step rfl ?_ | refine O_nil' ?_ | refine V_cT rfl rfl ?_ | refine V_cF rfl rfl ?_ | refine V_cEq rfl rfl ?_ | refine V_cNe rfl rfl ?_ | refine V_cB rfl rfl (fun _ => ?_) (fun _ => ?_) | refine O_gT' rfl ?_ | refine O_gU' rfl ?_ | refine O_gF' rfl rfl ?_ | refine O_gEq rfl ?_ | refine O_gNe rfl ?_ | refine O_gS rfl (fun _ => ?_) (fun _ => ?_) | refine V_fA rfl rfl ?_ | refine V_fAN rfl rfl ?_ | refine V_D rfl ?_ | refine D_step rfl ?_ | refine D_nil' ?_ | refine D_gT' rfl ?_ | refine D_gU' rfl ?_ | refine D_gF' rfl rfl ?_ | refine D_gS rfl (fun _ => ?_) (fun _ => ?_)
  rfl
end Go.Proofs.YtfdebgebnkbagaaDoor
