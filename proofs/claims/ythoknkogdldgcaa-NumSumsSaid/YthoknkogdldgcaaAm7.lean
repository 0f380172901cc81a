/- AM7: slicing, conversions, lengths, structs put together. -/
import Derived.Test.YthoknkogdldgcaaAm6
set_option linter.unusedVariables false
set_option linter.unusedSimpArgs false
namespace Go.AM
open Go.RowKit

section
variable {P : Program} {X : Cx} {st : St} {G : Gh} {w : World} {n : Nat} {ρ : Env} {a : Act}

def cOpt : Option Operand → Option (Option Opd)
  | none => some none
  | some x => (cOpd x).map some
theorem opt_rep (hE : EnvRep G (OwnF X st G) w n ρ a) {x : Option Operand} {y : Option Opd} (h : cOpt x = some y) : (x = none ∧ y = none) ∨ ∃ x' y', x = some x' ∧ y = some y' ∧ Rep G (OwnF X st G) w (a.eval x') (y'.ev ρ) := by
  cases x with
  | none => injection h with h; subst h; exact .inl ⟨rfl, rfl⟩
  | some x' =>
    obtain ⟨y', hy, rfl⟩ := Option.map_eq_some_iff.1 h
    exact .inr ⟨x', y', rfl, rfl, opd_rep hE hy⟩
/-- A bound as the machine reckons it. -/
theorem bound_run (hE : EnvRep G (OwnF X st G) w n ρ a) {x : Option Operand} {y : Option Opd} (h : cOpt x = some y) {els lo hi r : Nat} (hb : bound? (y.map (Opd.ev ρ)) els lo hi = some r) :
    (x.map a.eval = none ∧ y = none ∧ r = els) ∨ ∃ k i, x.map a.eval = some (.int k i) ∧ y.isSome = true ∧ (lo : Int) ≤ i ∧ i ≤ hi ∧ r = i.toNat := by
  rcases opt_rep hE h with ⟨rfl, rfl⟩ | ⟨x', y', rfl, rfl, hr⟩
  · simp [bound?] at hb
    exact .inl ⟨rfl, rfl, hb.symm⟩
  · simp only [Option.map_some, bound?] at hb
    split at hb
    · rename_i hh; cases hh
    · rename_i k i hi'
      injection hi' with hi'
      rw [hi'] at hr
      split at hb
      · rename_i hc
        injection hb with hb
        exact .inr ⟨k, i, by simp [rep_int hr], rfl, hc.1, hc.2, hb.symm⟩
      · cases hb
    · cases hb

/-- The three bounds. -/
theorem bounds_run (hE : EnvRep G (OwnF X st G) w n ρ a) {isSlice : Bool} {lo hi mx : Option Operand} {lo' hi' mx' : Option Opd} (hlo : cOpt lo = some lo') (hhi : cOpt hi = some hi') (hmx : cOpt mx = some mx') (hm3 : mx'.isSome = true → hi'.isSome = true)
    {len cap m h l : Nat} (hc : len ≤ cap) (h1 : bound? (mx'.map (Opd.ev ρ)) len 0 len = some m) (h2 : bound? (hi'.map (Opd.ev ρ)) len 0 m = some h) (h3 : bound? (lo'.map (Opd.ev ρ)) 0 0 h = some l) :
    ∃ m', (Instr.sliceBounds isSlice len cap (lo.map a.eval) (hi.map a.eval) (mx.map a.eval)).run P w = .ok (l, h, m') w ∧ (mx'.isSome = true → m' = m) ∧ (mx' = none → m' = cap ∧ m = len) ∧ l ≤ h ∧ h ≤ m ∧ m ≤ len := by
  have b1 := bound_run hE hmx h1
  have b2 := bound_run hE hhi h2
  have b3 := bound_run hE hlo h3
  have hml : m ≤ len := by rcases b1 with ⟨_, _, rfl⟩ | ⟨k, i, _, _, _, hi, rfl⟩ <;> omega
  have hhm : h ≤ m := by
    rcases b2 with ⟨_, hn, rfl⟩ | ⟨k, i, _, _, _, hi, rfl⟩
    · rcases b1 with ⟨_, _, rfl⟩ | ⟨k, i, _, hs, _, hi, rfl⟩
      · exact Nat.le_refl _
      · have := hm3 hs; rw [hn] at this; cases this
    · omega
  have hlh : l ≤ h := by rcases b3 with ⟨_, _, rfl⟩ | ⟨k, i, _, _, _, hi, rfl⟩ <;> omega
  rcases b1 with ⟨e1, n1, r1⟩ | ⟨k1, i1, e1, s1, g1, u1, r1⟩
  · refine ⟨cap, ?_, (fun hs => by rw [n1] at hs; cases hs), fun _ => ⟨rfl, r1⟩, hlh, hhm, hml⟩
    rw [e1]
    rcases b2 with ⟨e2, n2, r2⟩ | ⟨k2, i2, e2, s2, g2, u2, r2⟩ <;> rcases b3 with ⟨e3, n3, r3⟩ | ⟨k3, i3, e3, s3, g3, u3, r3⟩ <;> rw [e2, e3]
    · simp [Instr.sliceBounds, r2, r3]
    · have : (Instr.sliceBound (.int k3 i3) len .sliceB).run P w = .ok i3.toNat w := run_sliceBound w k3 i3 _ _ (by omega) (by omega)
      simp [Instr.sliceBounds, this, r2, r3]
    · have : ∀ c, (Instr.sliceBound (.int k2 i2) cap c).run P w = .ok i2.toNat w := fun c => run_sliceBound w k2 i2 _ _ (by omega) (by omega)
      simp [Instr.sliceBounds, this, r2, r3]
    · have t1 : ∀ c, (Instr.sliceBound (.int k2 i2) cap c).run P w = .ok i2.toNat w := fun c => run_sliceBound w k2 i2 _ _ (by omega) (by omega)
      have t2 : ∀ c, (Instr.sliceBound (.int k3 i3) i2.toNat c).run P w = .ok i3.toNat w := fun c => run_sliceBound w k3 i3 _ _ (by omega) (by omega)
      simp [Instr.sliceBounds, t1, t2, r2, r3]
  · refine ⟨m, ?_, fun _ => rfl, (fun hn => by rw [hn] at s1; cases s1), hlh, hhm, hml⟩
    rw [e1]
    have t1 : ∀ c, (Instr.sliceBound (.int k1 i1) cap c).run P w = .ok i1.toNat w := fun c => run_sliceBound w k1 i1 _ _ (by omega) (by omega)
    rcases b2 with ⟨e2, n2, r2⟩ | ⟨k2, i2, e2, s2, g2, u2, r2⟩
    · have := hm3 s1; rw [n2] at this; cases this
    have t2 : ∀ c, (Instr.sliceBound (.int k2 i2) i1.toNat c).run P w = .ok i2.toNat w := fun c => run_sliceBound w k2 i2 _ _ (by omega) (by omega)
    rcases b3 with ⟨e3, n3, r3⟩ | ⟨k3, i3, e3, s3, g3, u3, r3⟩ <;> rw [e2, e3]
    · simp [Instr.sliceBounds, t1, t2, r1, r2, r3]
    · have t3 : ∀ c, (Instr.sliceBound (.int k3 i3) i2.toNat c).run P w = .ok i3.toNat w := fun c => run_sliceBound w k3 i3 _ _ (by omega) (by omega)
      simp [Instr.sliceBounds, t1, t2, t3, r1, r2, r3]

def cSlice (P : Program) (t : TypeId) (x : Operand) (lo hi mx : Option Operand) : Option PI :=
  match cOpd x, cOpt lo, cOpt hi, cOpt mx with
  | some y, some l, some h, some m =>
    if m.isSome = true ∧ h.isSome = false then none else
    match P.underlying t with
    | some .string => if m.isSome then none else some (.sliceStr y l h)
    | some (.slice e) => match tyOf P e with
      | some (_, i) => some (.sliceSl y i.size l h m)
      | none => none
    | some (.array len e) => match tyOf P e with
      | some (_, i) => some (.sliceArr y len i.size l h m)
      | none => none
    | _ => none
  | _, _, _, _ => none

theorem q_slice (hI : Inv X st G w) (hE : EnvRep G (OwnF X st G) w n ρ a) {o : Oper} {t : TypeId} {x : Operand} {lo hi mx : Option Operand} (ho : o.op = .slice t x lo hi mx) {pi : PI} (hc : cSlice P t x lo hi mx = some pi) {p : PV}
    (hq : quiet st.get (Opd.ev ρ) pi = some p) : QOk P X st G w o a p := by
  unfold cSlice at hc
  split at hc
  rotate_left
  · cases hc
  rename_i y l h m hy hl hh hm
  split at hc
  · cases hc
  rename_i hnm
  have hm3 : m.isSome = true → h.isSome = true := fun hs => by
    cases hb : h.isSome
    · exact absurd ⟨hs, hb⟩ hnm
    · rfl
  have hr := opd_rep hE hy
  split at hc
  · rename_i hU
    split at hc
    · cases hc
    rename_i hms
    injection hc with hc
    subst hc
    simp only [quiet] at hq
    unfold sliceStr? at hq
    split at hq
    · rename_i s hev
      rw [hev] at hr
      have hv := rep_str hr
      obtain ⟨h', hh', hq⟩ := Option.bind_eq_some_iff.1 hq
      obtain ⟨l', hl', rfl⟩ := Option.map_eq_some_iff.1 hq
      have hmn : m = none := by cases m <;> simp_all
      subst hmn
      have hmx0 : mx = none := by
        cases mx with
        | none => rfl
        | some z => simp [cOpt] at hm
      subst hmx0
      obtain ⟨m', hrun, _, _, hlh, hhm, _⟩ := bounds_run (P := P) (isSlice := false) hE hl hh hm (by simp) (len := s.length) (cap := s.length) (Nat.le_refl _) (m := s.length) (by simp [bound?]) hh' hl'
      refine qok_same ?_ (.str _)
      simp only [execOp, ho, Instr.sliceAt, Instr.slice, hv]
      have hsz : (⟨s.toArray⟩ : ByteArray).size = s.length := by simp [ByteArray.size]
      have hex : (⟨s.toArray⟩ : ByteArray).extract l' h' = ⟨((s.drop l').take (h' - l')).toArray⟩ := by
        apply ByteArray.ext
        simp [ByteArray.data_extract, List.extract_eq_take_drop]
      simp only [Option.map_none] at hrun
      simp [run_underlying hU, hsz, hrun, hex]
    · cases hq
  · rename_i e hU
    split at hc
    · rename_i d i hT
      injection hc with hc
      subst hc
      simp only [quiet] at hq
      unfold sliceSl? at hq
      obtain ⟨len, hlen, hq⟩ := Option.bind_eq_some_iff.1 hq
      obtain ⟨m', hm', hq⟩ := Option.bind_eq_some_iff.1 hq
      obtain ⟨h', hh', hq⟩ := Option.bind_eq_some_iff.1 hq
      obtain ⟨l', hl', hq⟩ := Option.bind_eq_some_iff.1 hq
      have hss : (m.map (Opd.ev ρ)).isSome = m.isSome := by cases m <;> rfl
      rw [hss] at hq
      have go : ∀ (ad : Option Addr) (cap : Nat) (q : PV), a.eval x = .slice ad len cap → len ≤ cap →
          (∀ mm, (m.isSome = true → mm = m') → (m = none → mm = cap ∧ m' = len) → l' ≤ h' → h' ≤ m' → m' ≤ len → Rep G (OwnF X st G) w (.slice (if mm = l' then ad else ad.map (·.add (l' * i.size))) (h' - l') (mm - l')) q) → QOk P X st G w o a q := by
        intro ad cap q hv hcap hrep
        obtain ⟨mm, hrun, k1, k2, k3, k4, k5⟩ := bounds_run (P := P) (isSlice := true) hE hl hh hm hm3 hcap hm' hh' hl'
        refine qok_same ?_ (hrep mm k1 k2 k3 k4 k5)
        simp only [execOp, ho, Instr.sliceAt, Instr.slice, hv]
        simp [run_underlying hU, hrun, run_sizeOf hT]
      generalize hav : a.eval x = v at hr
      generalize hev : y.ev ρ = q at hr hq hlen
      cases hr with
      | nilSl =>
        injection hlen with hlen
        subst hlen
        injection hq with hq
        subst hq
        refine go none 0 _ hav (Nat.le_refl _) fun mm k1 k2 k3 k4 k5 => ?_
        have h1 : l' = 0 := by omega
        have h2 : h' = 0 := by omega
        have h3 : mm = 0 := by
          cases hms : m with
          | none => exact (k2 hms).1
          | some z => rw [k1 (by rw [hms]; rfl)]; omega
        subst h1 h2 h3
        exact .nilSl
      | sl xs full b o' cap sz adr u hcap hfull hadr hsz hc' hr' =>
        injection hlen with hlen
        subst hlen
        simp only at hq
        split at hq
        · rename_i hall
          injection hq with hq
          subst hq
          refine go _ cap _ hav hcap fun mm k1 k2 k3 k4 k5 => ?_
          have hmm : m' ≤ mm := by
            cases hms : m with
            | none => have := k2 hms; omega
            | some z => rw [k1 (by rw [hms]; rfl)]; exact Nat.le_refl _
          have hlen' : ((xs.drop l').take (h' - l')).length = h' - l' := by simp; omega
          have hfl : (if m.isSome = true then m' == h' else full && h' == xs.length) = true → mm - l' = h' - l' := by
            intro hf
            cases hms : m with
            | none =>
              rw [hms] at hf
              simp at hf
              have := k2 hms
              have := hfull hf.1
              omega
            | some z =>
              rw [hms] at hf
              simp at hf
              have := k1 (by rw [hms]; rfl)
              omega
          by_cases hml : mm = l'
          · rw [if_pos hml]
            have h0 : h' - l' = 0 := by omega
            have := Rep.sl (G := G) (own := OwnF X st G) (w := w) [] (if m.isSome = true then m' == h' else full && h' == xs.length) b o' (mm - l') 0 adr (fun _ _ => undef) (by simp) (by intro hf; simpa [h0] using hfl hf) (fun hpos => by omega) (fun j cs hj => by simp at hj) (fun j cs i c hj => by simp at hj) (fun j cs i c hj => by simp at hj)
            simpa [h0] using this
          · rw [if_neg hml]
            have hpos : 0 < cap := by
              cases hms : m with
              | none => have := k2 hms; omega
              | some z => have := k1 (by rw [hms]; rfl); omega
            have := hadr hpos
            subst this
            have hstep : ∀ j cs, ((xs.drop l').take (h' - l'))[j]? = some cs → xs[l' + j]? = some cs ∧ cs.length = i.size ∧ sz = i.size := by
              intro j cs hj
              rw [List.getElem?_take] at hj
              split at hj
              · rw [List.getElem?_drop] at hj
                refine ⟨hj, ?_⟩
                have h1 := hsz _ _ hj
                have h2 : cs ∈ xs := List.mem_of_getElem? hj
                have h3 := (List.all_eq_true.1 hall) cs h2
                have h4 : cs.length = i.size := by simpa using h3
                exact ⟨h4, by omega⟩
              · cases hj
            have := Rep.sl (G := G) (own := OwnF X st G) (w := w) ((xs.drop l').take (h' - l')) (if m.isSome = true then m' == h' else full && h' == xs.length) b (o' + l' * i.size) (mm - l') i.size ⟨b, o' + l' * i.size, none⟩ (fun j => u (l' + j)) (by rw [hlen']; omega) (by rw [hlen']; exact hfl) (fun _ => rfl) (fun j cs hj => (hstep j cs hj).2.1)
              (fun j cs q c hj hq' => by
                obtain ⟨s1, s2, s3⟩ := hstep j cs hj
                have := hc' _ _ _ _ s1 hq'
                rw [s3, Nat.add_mul] at this
                rwa [show o' + l' * i.size + j * i.size + q = o' + (l' * i.size + j * i.size) + q by omega])
              (fun j cs q c hj hq' => hr' _ _ _ _ (hstep j cs hj).1 hq')
            rw [hlen'] at this
            simpa [add_at] using this
        · cases hq
      | osl t' g off len' full L cap ad hG hcap hL hfull ha hspot =>
        injection hlen with hlen
        subst hlen
        simp only at hq
        split at hq
        · cases hq
        · rename_i hmh
          split at hq
          · rename_i g' sz' es lv hg
            split at hq
            · rename_i hgs
              obtain ⟨rfl, rfl⟩ := hgs
              injection hq with hq
              subst hq
              obtain ⟨L', h1, h2, _⟩ := hI.toks t' _ hg
              rw [h1] at hG
              injection hG with hG
              subst hG
              refine go _ cap _ hav hcap fun mm k1 k2 k3 k4 k5 => ?_
              have hmm : m' ≤ mm ∧ mm ≤ cap := by
                cases hms : m with
                | none => have := k2 hms; omega
                | some z => have := k1 (by rw [hms]; rfl); omega
              have hfl : (m.isSome || (full && h' == len')) = true → mm - l' = h' - l' := by
                intro hf
                cases hms : m with
                | none =>
                  rw [hms] at hf
                  simp at hf
                  have := k2 hms
                  have := hfull hf.1
                  omega
                | some z =>
                  rw [hms] at hmh
                  simp at hmh
                  have := k1 (by rw [hms]; rfl)
                  omega
              by_cases hml : mm = l'
              · rw [if_pos hml]
                exact .osl t' g' (off + l') (h' - l') _ L' (mm - l') ad h1 (by omega) (by omega) hfl (fun hp => by omega) hspot
              · rw [if_neg hml]
                refine .osl t' g' (off + l') (h' - l') _ L' (mm - l') _ h1 (by omega) (by omega) hfl (fun hp => ?_) (add_spot hspot _)
                have := ha (by omega)
                subst this
                show (⟨L'.blk, L'.off + off * L'.sz, none⟩ : Addr).add (l' * i.size) = _
                rw [add_at, h2, Nat.add_mul, Nat.add_assoc]
            · cases hq
          · cases hq
      | vsl t' off sz' len' L cap ad hG hcap ha hspot =>
        injection hlen with hlen
        subst hlen
        simp only at hq
        split at hq
        · rename_i hs
          subst hs
          injection hq with hq
          subst hq
          refine go _ cap _ hav hcap fun mm k1 k2 k3 k4 k5 => ?_
          have hmm : m' ≤ mm := by
            cases hms : m with
            | none => have := k2 hms; omega
            | some z => have := k1 (by rw [hms]; rfl); omega
          by_cases hml : mm = l'
          · rw [if_pos hml]
            exact .vsl t' _ _ (h' - l') L (mm - l') ad hG (by omega) (fun hp => by omega) hspot
          · rw [if_neg hml]
            refine .vsl t' _ _ (h' - l') L (mm - l') _ hG (by omega) (fun hp => ?_) (add_spot hspot _)
            have := ha (by omega)
            subst this
            show (⟨L.blk, L.off + off, none⟩ : Addr).add (l' * i.size) = _
            rw [add_at, Nat.add_assoc]
        · cases hq
      | str s => cases hq
      | _ => cases hlen
    · cases hc
  · rename_i len e hU
    split at hc
    · rename_i d i hT
      injection hc with hc
      subst hc
      simp only [quiet] at hq
      unfold sliceArr? at hq
      split at hq
      · rename_i t' off hev
        obtain ⟨m', hm', hq⟩ := Option.bind_eq_some_iff.1 hq
        obtain ⟨h', hh', hq⟩ := Option.bind_eq_some_iff.1 hq
        obtain ⟨l', hl', rfl⟩ := Option.map_eq_some_iff.1 hq
        rw [hev] at hr
        generalize hav : a.eval x = v at hr
        cases hr with
        | ptr _ _ L hG =>
          obtain ⟨mm, hrun, k1, k2, k3, k4, k5⟩ := bounds_run (P := P) (isSlice := false) hE hl hh hm hm3 (Nat.le_refl len) hm' hh' hl'
          have hmm : m' ≤ mm := by
            cases hms : m with
            | none => have := k2 hms; omega
            | some z => have := k1 (by rw [hms]; rfl); omega
          refine qok_same (u := .slice (some (if mm = l' then (⟨L.blk, L.off + off, none⟩ : Addr) else (⟨L.blk, L.off + off, none⟩ : Addr).add (l' * i.size))) (h' - l') (mm - l')) ?_ ?_
          · simp only [execOp, ho, Instr.sliceAt, hav]
            simp [run_underlying hU, Instr.sureAddr, hrun, run_sizeOf hT]
          · refine .vsl t' _ _ (h' - l') L (mm - l') _ hG (by omega) (fun hp => ?_) (by split <;> first | rfl | exact add_spot rfl _)
            rw [if_neg (by omega), add_at, Nat.add_assoc]
      · cases hq
    · cases hc
  · cases hc
end
end Go.AM
