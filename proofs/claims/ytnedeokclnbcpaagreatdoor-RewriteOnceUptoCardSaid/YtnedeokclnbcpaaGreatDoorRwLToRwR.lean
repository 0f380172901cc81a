/- value.Clone, parse.cloneValues. · parse.cloneValues. · parse.Clone: a tree of rows of one's own. -/
import Derived.Test.YtnedeokclnbcpaaGreatDoorRwGToRwJ
set_option linter.unusedVariables false
set_option linter.unusedSimpArgs false
namespace Go.Proofs.YtnedeokclnbcpaaGreatDoor
open Go Go.AM Go.RowKit
theorem VC.c4 {v : Val} {cs : List PV} (h : VC v cs) : cs.length = 4 ∧ (∀ c ∈ cs, PV.one c = true) ∧ ∀ c ∈ cs, Pl c := ⟨h.len4, fun c hc => List.all_eq_true.1 h.one c hc, h.pl⟩
def z4 : List PV := [.int .i64 0, .int .i64 0, .str [], .nilSl]
theorem mayV_l {f : Nat} {k n : Int} {s : List UInt8} {l : List Val} (h : Zl (f + 1) (.mk k n s l) = true) : l.length ≤ 512 ∧ l.all (Zl f) = true := by
  unfold Zl at h
  have nil : (l.length : Int) = 0 → l.length ≤ 512 ∧ l.all (Zl f) = true := fun h0 => by
    have : l = [] := List.length_eq_zero_iff.1 (by omega)
    subst this
    simp
  by_cases h1 : k = 1
  · simp only [if_pos h1, Bool.and_eq_true, decide_eq_true_eq] at h
    exact nil h.2
  rw [if_neg h1] at h
  by_cases h3 : k = 3
  · simp only [if_pos h3, Bool.and_eq_true, decide_eq_true_eq] at h
    exact nil h.1.2
  rw [if_neg h3] at h
  by_cases h6 : k = 6
  · simp only [if_pos h6, Bool.and_eq_true, decide_eq_true_eq] at h
    exact nil h.1.1.2
  rw [if_neg h6] at h
  by_cases h7 : k = 7
  · simp only [if_pos h7, Bool.and_eq_true, decide_eq_true_eq] at h
    exact nil h.1.1.2
  rw [if_neg h7] at h
  by_cases h2 : k = 2
  · simp only [if_pos h2, Bool.and_eq_true, decide_eq_true_eq] at h
    exact nil h.1.2
  rw [if_neg h2] at h
  by_cases h4 : k = 4
  · simp only [if_pos h4, Bool.and_eq_true, decide_eq_true_eq] at h
    exact ⟨by omega, h.2⟩
  rw [if_neg h4] at h
  by_cases h5 : k = 5
  · simp only [if_pos h5, Bool.and_eq_true, decide_eq_true_eq] at h
    exact ⟨by omega, h.1.2⟩
  rw [if_neg h5] at h
  cases h
def VRow (L : List Val) (es : List (List PV)) : Prop := es.length = L.length ∧ ∀ (j : Nat) (a : Val) (cs : List PV), L[j]? = some a → es[j]? = some cs → VC a cs
theorem VRow.set {L : List Val} {es : List (List PV)} (h : VRow L es) {i : Nat} {a : Val} {c : List PV} (ha : L[i]? = some a) (hc : VC a c) : VRow L (es.set i c) :=
  ⟨by simp [h.1], fun j b cs hb hcs => by
    rw [List.getElem?_set] at hcs
    split at hcs
    · rename_i e
      subst e
      split at hcs
      · injection hcs with hcs
        subst hcs
        rw [ha] at hb
        injection hb with hb
        subst hb
        exact hc
      · cases hcs
    · exact h.2 j b cs hb hcs⟩
theorem Zit {look : Nat → Option Tok} {t g len i sz : Nat} {f : Bool} {es : List (List PV)} {lv : Bool} (hg : look t = some (.row g sz es lv)) (hi : i < len) : indexS? look sz (i : Int) (.osl t g 0 len f) = some (.rptr t g i 0) := by
  simp only [indexS?]
  rw [if_pos ⟨by omega, by omega⟩]
  simp only [hg, and_self, if_true, Int.toNat_natCast, Nat.zero_add]
theorem ld_row {look : Nat → Option Tok} {t g i sz n : Nat} {es : List (List PV)} {lv : Bool} {cs : List PV} (hg : look t = some (.row g sz es lv)) (hc : es[i]? = some cs) (hl : cs.length = n) : loadAt look n true (.rptr t g i 0) = some (.agg cs) := by
  simp only [loadAt, behind, hg, if_true, hc, Option.map_some, Option.bind_some, slice?]
  rw [if_pos (by omega)]
  simp [List.take_of_length_le (Nat.le_of_eq hl)]
theorem st_row {st : St} {t g i sz n : Nat} {es : List (List PV)} {cs ds : List PV} (hg : st.get t = some (.row g sz es true)) (hc : es[i]? = some cs) (hl : cs.length = n) (hd : ds.length = n) (ho : ∀ c ∈ ds, PV.one c = true) (h0 : 0 < n) {e : EC} {a x : Opd} (ha : a.get e = some (.rptr t g i 0)) (hx : x.get e = some (.agg ds)) : Z1c st e (.store n a x) = some (.tuple [], st.put t (.row g sz (es.set i ds) true)) := by
  have h1 : (PV.agg ds).cells.all PV.one = true := List.all_eq_true.2 ho
  have h2 : (PV.agg ds).cells.length = n := hd
  have h3 : (PV.agg ds).cells = ds := rfl
  simp only [Z1c, ha, hx]
  rw [if_pos ⟨h1, h2, h0⟩]
  simp only [storeAt, hg, if_true, hc, h3]
  rw [if_pos (by omega)]
  have : Z8z cs 0 ds = ds := by
    unfold Z8z
    simp [hl, hd]
  rw [this]
  rfl
set_option maxHeartbeats 4000000 in
theorem vclone_loop {L : List Val} {k n : Int} {s : List UInt8} {t g : Nat} {fl : Bool} (hL : L.length ≤ 512) (ih : ∀ a ∈ L, ∀ cs, VC a cs → ∃ cs', T.R (.call Z7g [.agg cs] (.agg cs')) ∧ VC a cs') : ∀ (rest pre : List Val) (st : St) (es : List (List PV)), L = pre ++ rest →
    st.get 0 = some (.var [.int .i64 k, .int .i64 n, .str s, .osl t g 0 L.length fl]) → st.get 1 = some (.var z4) → st.get t = some (.row g 4 es true) → VRow L es → 2 ≤ t →
    V T (PE fun x e st' => x = .exit 0 ∧ e = Zj [(1, .ptr 0 0), (2, .ptr 1 0)] ∧ ∃ es', st'.get 0 = some (.var [.int .i64 k, .int .i64 n, .str s, .osl t g 0 L.length fl]) ∧ st'.get 1 = some (.var z4) ∧ st'.get t = some (.row g 4 es' true) ∧ VRow L es') [.code (.loop Zbm)] .normal (Zj [(1, .ptr 0 0), (2, .ptr 1 0), (10, .int .i64 L.length), (11, .int .i64 pre.length)]) st := by
  intro rest
  induction rest with
  | nil =>
    intro pre st es hl h0 h1 ht he h2
    have hlt : decide ((pre.length : Int) < L.length) = false := decide_eq_false (by subst hl; simp)
    refine Ze ?_
    repeat' first | ((with_reducible show V _ _ _ _ _ _); first | refine Z6s hlt rfl rfl ?_ | refine Z0w [(1, .ptr 0 0), (2, .ptr 1 0)] rfl ⟨rfl, rfl, trivial⟩ ⟨rfl, rfl, es, h0, h1, ht, he⟩ | refine Z1 rfl ?_) | refine Z0 rfl ?_ | refine Z2 ?_
  | cons y rest ihr =>
    intro pre st es hl h0 h1 ht he h2
    have hlt : decide ((pre.length : Int) < L.length) = true := decide_eq_true (by subst hl; simp; omega)
    have hpl : pre.length < L.length := by subst hl; simp
    have hy : L[pre.length]? = some y := by subst hl; simp
    obtain ⟨cs, hcs⟩ : ∃ cs, es[pre.length]? = some cs := ⟨_, List.getElem?_eq_getElem (by rw [he.1]; exact hpl)⟩
    have hv := he.2 _ _ _ hy hcs
    obtain ⟨c', c1, c2⟩ := ih y (by subst hl; simp) cs hv
    have l4 := hv.c4.1
    have p4 := hv.c4.2.2
    have m4 := c2.c4.1
    have o4 := c2.c4.2.1
    obtain ⟨B, hB⟩ : ∃ B, st.put t (.row g 4 (es.set pre.length c') true) = B := ⟨_, rfl⟩
    have b0 : B.get 0 = some (.var [.int .i64 k, .int .i64 n, .str s, .osl t g 0 L.length fl]) := by rw [← hB]; exact (St.get_put_old (by omega)).trans h0
    have b1 : B.get 1 = some (.var z4) := by rw [← hB]; exact (St.get_put_old (by omega)).trans h1
    have bt : B.get t = some (.row g 4 (es.set pre.length c') true) := by rw [← hB]; exact St.get_put
    have hw : IntKind.i64.wrap ((pre.length : Int) + 1) = ((pre ++ [y]).length : Int) := by rw [Z00]; simp; omega
    have hi := ihr (pre ++ [y]) B (es.set pre.length c') (by rw [hl]; simp) b0 b1 bt (he.set hy c2) h2
    have hall := Zb6 (Q := fun s' => s'.get 0 = some (.var [.int .i64 k, .int .i64 n, .str s, .osl t g 0 L.length fl])) (a := st) (r := [st, st, B]) ⟨h0, h0, h0, b0⟩
    have hallt := Zb6 (Q := fun s' => ∃ es', s'.get t = some (.row g 4 es' true)) (a := st) (r := [st, st, B]) ⟨⟨_, ht⟩, ⟨_, ht⟩, ⟨_, ht⟩, ⟨_, bt⟩⟩
    have hix : ∀ (i : Nat) {e : EC} {x j : Opd}, x.get e = some (.osl t g 0 L.length fl) → j.get e = some (.int .i64 (pre.length : Int)) → Zo ((mkC [7, 8, 10] [some 21, some 22, none] st [st, st, B] none).S i).get e (.indexS x j 4) = some (.rptr t g pre.length 0) := fun i {e x j} hx hj => by
      obtain ⟨es', h⟩ := hallt i
      exact Zke hx hj (Zit h hpl)
    have hst : ∀ {e : EC} {a x : Opd}, a.get e = some (.rptr t g pre.length 0) → x.get e = some (.agg c') → Z1c st e (.store 4 a x) = some (.tuple [], B) := fun {e a x} ha hx => by
      rw [st_row ht hcs l4 m4 o4 (by decide) ha hx, hB]
    refine Ze ?_
    repeat' first | ((with_reducible show V _ _ _ _ _ _); first | refine Zao hlt rfl rfl ?_ | refine V_C (mkC [7, 8, 10] [some 21, some 22, none] st [st, st, B] none) rfl rfl ?_ | refine Zg8 rfl hi ⟨rfl, rfl, rfl, Z05 hw, trivial⟩ | refine Z1 rfl ?_) | refine Z0 rfl ?_ | refine Z2 ?_ | ((with_reducible show Go.AM.VC _ _ _ _ _ _ _ _ _ _); first | refine C_move rfl rfl rfl rfl rfl rfl rfl (ld_q rfl (ld_row ht hcs l4)) ?_ | refine C_mcall rfl rfl rfl rfl rfl rfl rfl rfl rfl (Z08) c1 ?_ | refine Zn2 rfl rfl rfl rfl rfl (hst rfl rfl) ?_ | refine Zn4 rfl rfl rfl hall rfl ?_ | refine Zn3 rfl rfl (fun i => hix i rfl rfl) ?_ | refine Zn1 rfl rfl (fun _ => rfl) ?_ | refine C_nil rfl rfl ?_)
set_option maxHeartbeats 4000000 in
theorem Zj0 : ∀ (f : Nat) (v : Val) (cs : List PV), Zl f v = true → VC v cs → ∃ cs', T.R (.call Z7g [.agg cs] (.agg cs')) ∧ VC v cs'
  | 0, v, cs, hm, hv => by simp [Zl] at hm
  | f + 1, .mk k n s l, cs, hm, hv => by
    obtain ⟨hl, hall⟩ := mayV_l hm
    obtain ⟨hk, hn, hs, p, rfl, hp⟩ := hv.open
    have plp := hp.pl
    obtain ⟨v', S3, r1, r2, r3⟩ := sCloneRaw (f := Zae) (sz := 4) (bytes := 56) (z := z4) rfl (by decide) (by decide) (p := p) (l := l) hp (fun _ _ h => ⟨h.c4.1, h.c4.2.1⟩) (by simp only [Z04]; omega) ⟨2, 2, [(0, .var [.int .i64 k, .int .i64 n, .str s, p]), (1, .var z4)]⟩
    have one : PV.one v' = true := by
      rcases r2 with r2 | ⟨rfl, _⟩
      · exact r2.one
      · rfl
    have q0 : S3.get 0 = some (.var [.int .i64 k, .int .i64 n, .str s, p]) := r3.2.2.2 0 (show 0 < 2 by decide) (by simp [Z0i])
    have q1 : S3.get 1 = some (.var z4) := r3.2.2.2 1 (show 1 < 2 by decide) (by simp [Z0i])
    have lenv : lenOf v' = some l.length ∧ Zb2 v' = false := by
      rcases r2 with r2 | ⟨rfl, rfl⟩
      · exact r2.len
      · exact ⟨rfl, rfl⟩
    obtain ⟨S4, hS4⟩ : ∃ S, (⟨0, S3.next, S3.toks⟩ : St).put 0 (.var [.int .i64 k, .int .i64 n, .str s, v']) = S := ⟨_, rfl⟩
    have hst : storeAt (⟨0, S3.next, S3.toks⟩ : St) (.ptr 0 3) v' = some S4 := by
      have hc : v'.cells = [v'] := by
        rcases r2 with ⟨es, r2, _⟩ | ⟨rfl, _⟩
        · rcases r2 with ⟨rfl, _⟩ | ⟨t, g, rfl, _⟩ <;> rfl
        · rfl
      have q0' : (⟨0, S3.next, S3.toks⟩ : St).get 0 = some (.var [.int .i64 k, .int .i64 n, .str s, p]) := q0
      simp only [storeAt, q0', hc]
      rw [if_pos (by simp), ← hS4]
      rfl
    have d0 : S4.get 0 = some (.var [.int .i64 k, .int .i64 n, .str s, v']) := by rw [← hS4]; exact St.get_put
    have d1 : S4.get 1 = some (.var z4) := by rw [← hS4]; exact (St.get_put_old (by decide)).trans q1
    have hcell : v'.cells.all PV.one = true ∧ v'.cells.length = 1 := by
      rcases r2 with ⟨es, r2, _⟩ | ⟨rfl, _⟩
      · rcases r2 with ⟨rfl, _⟩ | ⟨t, g, rfl, _⟩ <;> exact ⟨rfl, rfl⟩
      · exact ⟨rfl, rfl⟩
    have key : ∃ r, T.R (.call Z7g [.agg [.int .i64 k, .int .i64 n, .str s, p]] r) ∧ ∃ cs', r = .agg cs' ∧ VC (.mk k n s l) cs' := by
      refine Z9v rfl rfl ?_
      by_cases hne : l = []
      · subst hne
        have hlt : decide ((0 : Int) < (([] : List Val).length : Int)) = false := by decide
        have w0 : v' = .nilSl ∨ (∃ t g, v' = .osl t g 0 0 false ∧ t ≠ 1 ∧ S4.get t = some (.row g 4 [] true)) ∨ v' = .sl [] true := by
          rcases r2 with ⟨es, r2, e1, _⟩ | ⟨rfl, _⟩
          · rcases r2 with ⟨rfl, _⟩ | ⟨t, g, rfl, k1, k2⟩
            · exact .inl rfl
            · have : es = [] := List.length_eq_zero_iff.1 (by simpa using e1)
              subst this
              have ht2 : t ≠ 0 := by
                rintro rfl
                rw [q0] at k1
                cases k1
              have ht1 : t ≠ 1 := by
                rintro rfl
                rw [q1] at k1
                cases k1
              refine .inr (.inl ⟨t, g, rfl, ht1, ?_⟩)
              rw [← hS4]
              exact (St.get_put_old (fun e => ht2 e.symm)).trans k1
          · exact .inr (.inr rfl)
        obtain ⟨S5, hS5⟩ : ∃ S, S4.put 1 (.var [.int .i64 k, .int .i64 n, .str s, v']) = S := ⟨_, rfl⟩
        have f1 : S5.get 1 = some (.var [.int .i64 k, .int .i64 n, .str s, v']) := by rw [← hS5]; exact St.get_put
        have kp : ∀ u, u ≠ 1 → S5.get u = S4.get u := fun u hu => by rw [← hS5]; exact St.get_put_old (fun e => hu e.symm)
        obtain ⟨q, w1', w2⟩ : ∃ q, View true S5.get v' q ∧ LC [] q := by
          rcases w0 with h | ⟨t, g, h, h1, h2⟩ | h
          · rw [h]
            exact ⟨.nilSl, .nilSl, .inl ⟨rfl, rfl⟩⟩
          · rw [h]
            exact ⟨.sl [] false, .osl t g 0 0 false 4 [] true [] ((kp t h1).trans h2) (.inl rfl) (by simp) (by simp) (fun j cs ds h => by simp at h) (fun j cs ds i c d h => by simp at h), .inr ⟨[], false, rfl, by simp, rfl, fun j a cs h => by simp at h⟩⟩
          · rw [h]
            exact ⟨.sl [] true, .sl [] [] true rfl (fun j cs ds h => by simp at h) (fun j cs ds i c d h => by simp at h), .inr ⟨[], true, rfl, by simp, rfl, fun j a cs h => by simp at h⟩⟩
        have hone : ∀ c ∈ [PV.int .i64 k, .int .i64 n, .str s, v'], PV.one c = true := by simp [PV.one]; exact one
        have hz4 : z4.length = 4 := rfl
        have hl4 : [PV.int .i64 k, .int .i64 n, .str s, v'].length = 4 := rfl
        have hst5 : ∀ {e : EC} {a x : Opd}, a.get e = some (.ptr 1 0) → x.get e = some (.agg [.int .i64 k, .int .i64 n, .str s, v']) → Z1c S4 e (.store 4 a x) = some (.tuple [], S5) := fun {e a x} ha hx => by
          have h1 : (PV.agg [.int .i64 k, .int .i64 n, .str s, v']).cells.all PV.one = true := List.all_eq_true.2 hone
          simp only [Z1c, ha, hx]
          rw [if_pos ⟨h1, rfl, by decide⟩, Z1x d1 (by rfl), hS5]
          rfl
        have hv4 : View true S5.get (.agg [.int .i64 k, .int .i64 n, .str s, v']) (.agg [.int .i64 k, .int .i64 n, .str s, q]) := .agg _ _ rfl (fun i c d h1 h2 => by
          match i, h1, h2 with
          | 0, h1, h2 => simp at h1 h2; subst h1 h2; exact .int _ _
          | 1, h1, h2 => simp at h1 h2; subst h1 h2; exact .int _ _
          | 2, h1, h2 => simp at h1 h2; subst h1 h2; exact .str _
          | 3, h1, h2 => simp at h1 h2; subst h1 h2; exact w1'
          | i + 4, h1, h2 => simp at h1)
        repeat' first | ((with_reducible show V _ _ _ _ _ _); first | refine Z9m rfl (Ze ?_) | refine Z6s hlt rfl rfl ?_ | refine Zmy rfl (resC rfl f1 hl4) hv4 ⟨_, rfl, LC.vc w2 hk hn hs⟩ | refine Z1 rfl ?_) | ((with_reducible show VO _ _ _ _ _ _ _); first | refine O_rawAll r1 r3.1 rfl rfl ?_ | refine Z7m rfl rfl hcell.1 hcell.2 rfl hst ?_ | refine Z6u rfl d0 rfl ?_ | refine Z8 rfl lenv.1 lenv.2 ?_ | refine Z07 rfl d0 hl4 ?_ | refine Zc (hst5 rfl rfl) ?_ | refine Z0 rfl ?_ | refine Zc rfl ?_ | refine Z2 ?_)
      · obtain ⟨es, t, g, rfl, hrow, ht2, hvr⟩ : ∃ es t g, v' = .osl t g 0 l.length false ∧ S4.get t = some (.row g 4 es true) ∧ 2 ≤ t ∧ VRow l es := by
          rcases r2 with ⟨es, r2, e1, e2⟩ | ⟨_, h⟩
          · rcases r2 with ⟨_, h⟩ | ⟨t, g, rfl, k1, k2⟩
            · rw [h] at e1
              exact absurd (List.length_eq_zero_iff.1 (by simpa using e1.symm)) hne
            · have t2 : 2 ≤ t := by
                rcases r3.2.2.1 with h | ⟨m, h, hm⟩
                · cases h
                · injection h with h
                  subst h
                  exact hm
              refine ⟨es, t, g, by rw [e1], ?_, t2, e1, e2⟩
              rw [← hS4]
              exact (St.get_put_old (by omega)).trans k1
          · exact absurd h hne
        have hlp := vclone_loop (k := k) (n := n) (s := s) (t := t) (g := g) (fl := false) hl (fun a ha cs hc => Zj0 f a cs (List.all_eq_true.1 hall a ha) hc) l [] S4 es rfl d0 d1 hrow hvr ht2
        repeat' first | refine Z0h rfl hlp ⟨rfl, rfl, rfl, rfl, trivial⟩ ?_ | refine Z1 rfl ?_ | ((with_reducible show VO _ _ _ _ _ _ _); first | refine O_rawAll r1 r3.1 rfl rfl ?_ | refine Z7m rfl rfl hcell.1 hcell.2 rfl hst ?_ | refine Z6u rfl d0 rfl ?_ | refine Z8 rfl lenv.1 lenv.2 ?_ | refine Z0 rfl ?_ | refine Zc rfl ?_ | refine Z2 ?_)
        rintro x e st' ⟨rfl, rfl, es', j0, j1, j2, j3⟩
        obtain ⟨S5, hS5⟩ : ∃ S, st'.put 1 (.var [.int .i64 k, .int .i64 n, .str s, .osl t g 0 l.length false]) = S := ⟨_, rfl⟩
        have f1 : S5.get 1 = some (.var [.int .i64 k, .int .i64 n, .str s, .osl t g 0 l.length false]) := by rw [← hS5]; exact St.get_put
        have ft : S5.get t = some (.row g 4 es' true) := by rw [← hS5]; exact (St.get_put_old (by omega)).trans j2
        have hlen5 : es'.length = l.length := j3.1
        obtain ⟨q, w1, w2⟩ := AccR.view (R := VC) (sz := 4) (st := ⟨S5.base, t + 1, S5.toks⟩) (v := .osl t g 0 l.length false) (L := l) ⟨es', .inr ⟨t, g, by rw [hlen5], ft, by simp⟩, j3.1, j3.2⟩ (fun _ _ h => h.pl) (by omega)
        have w1' : View true S5.get (.osl t g 0 l.length false) q := w1
        have hl4 : [PV.int .i64 k, .int .i64 n, .str s, .osl t g 0 l.length false].length = 4 := rfl
        have hst5 : ∀ {e : EC} {a x : Opd}, a.get e = some (.ptr 1 0) → x.get e = some (.agg [.int .i64 k, .int .i64 n, .str s, .osl t g 0 l.length false]) → Z1c st' e (.store 4 a x) = some (.tuple [], S5) := fun {e a x} ha hx => by
          simp only [Z1c, ha, hx]
          rw [if_pos ⟨rfl, rfl, by decide⟩, Z1x j1 (by rfl), hS5]
          rfl
        have hv4 : View true S5.get (.agg [.int .i64 k, .int .i64 n, .str s, .osl t g 0 l.length false]) (.agg [.int .i64 k, .int .i64 n, .str s, q]) := .agg _ _ rfl (fun i c d h1 h2 => by
          match i, h1, h2 with
          | 0, h1, h2 => simp at h1 h2; subst h1 h2; exact .int _ _
          | 1, h1, h2 => simp at h1 h2; subst h1 h2; exact .int _ _
          | 2, h1, h2 => simp at h1 h2; subst h1 h2; exact .str _
          | 3, h1, h2 => simp at h1 h2; subst h1 h2; exact w1'
          | i + 4, h1, h2 => simp at h1)
        repeat' first | refine Zmy rfl (resC rfl f1 hl4) hv4 ⟨_, rfl, LC.vc w2 hk hn hs⟩ | refine Z1 rfl ?_ | ((with_reducible show VO _ _ _ _ _ _ _); first | refine Z07 rfl j0 hl4 ?_ | refine Zc (hst5 rfl rfl) ?_ | refine Z2 ?_)
    obtain ⟨r, k1, cs', rfl, k2⟩ := key
    exact ⟨cs', k1, k2⟩
section
variable {T : Tb} {Q : Z6t} {k : List Fr} {ρ : EC} {st S' : St} {l : List POp} {kill : List Nat}
theorem Zb7 {a x : Opd} {t n : Nat} {cs cs0 : List PV} (hS : st.put t (.var cs) = S') (hg : st.get t = some (.var cs0)) (h1 : ∀ c ∈ cs, PV.one c = true) (hl : cs.length = n) (h0 : cs0.length = n) (hn : Nat.blt 0 n = true) (ha : a.get ρ = some (.ptr t 0)) (hx : x.get ρ = some (.agg cs)) (h : VO T Q l kill k (ρ.sets none (.tuple [])) S') : VO T Q (⟨none, none, .store n a x⟩ :: l) kill k ρ st := by
  subst hS
  exact Z0d ha hx h1 hl hn hg h0 h
end
theorem buildSlN {cs z : List PV} {n : Nat} (hl : cs.length = n) (hz : z.length = n) {look : Nat → Option Tok} {e : EC} {i : Nat} (hi : e.get i = some (.agg cs)) : Zo look e (.buildSl n [z] [(0, .t i)]) = some (.sl [cs] true) := by
  simp only [Zo, Z6e, Zmi, Opd.get, hi]
  simp [Z1t, Z0v, PV.cells, PV.isJunk, hl, hz]
theorem okEl1 {cs : List PV} {n : Nat} (hl : cs.length = n) (h1 : ∀ c ∈ cs, PV.one c = true) : okEls n [cs] = true := by
  simp [okEls, hl]
  exact h1
set_option maxHeartbeats 2000000 in
theorem cvals_loop {L : List Val} {q : PV} (hq : LR VC q L) (hb : L.length ≤ 512) (hall : ∀ a ∈ L, ∀ cs, VC a cs → ∃ cs', T.R (.call Z7g [.agg cs] (.agg cs')) ∧ VC a cs') : ∀ (rest pre : List Val) (st : St) (v : PV), L = pre ++ rest → AccR VC 4 st v pre →
    V T (PE fun x e st' => x = .exit 0 ∧ ∃ v', e = Zj [(3, v')] ∧ AccR VC 4 st' v' L) [.code (.loop Z4s)] .normal (Zj [(3, v), (6, q), (7, .int .i64 L.length), (8, .int .i64 pre.length)]) st := by
  intro rest
  induction rest with
  | nil =>
    intro pre st v hl hv
    have hlt : decide ((pre.length : Int) < L.length) = false := decide_eq_false (by subst hl; simp)
    have hv' : AccR VC 4 st v L := by
      rw [hl, List.append_nil]
      exact hv
    refine Ze ?_
    repeat' first | ((with_reducible show V _ _ _ _ _ _); first | refine Z6s hlt rfl rfl ?_ | refine Z0w [(3, v)] rfl ⟨rfl, trivial⟩ ⟨rfl, v, rfl, hv'⟩ | refine Z1 rfl ?_) | refine Z0 rfl ?_ | refine Z2 ?_
  | cons y rest ihr =>
    intro pre st v hl hv
    have hlt : decide ((pre.length : Int) < L.length) = true := decide_eq_true (by subst hl; simp; omega)
    have hpl : pre.length < L.length := by subst hl; simp
    obtain ⟨cs, ay, hcs⟩ := hq.at (sz := 4) (fun _ _ h => h.c4.1) (j := pre.length) (a := y) (by subst hl; simp)
    obtain ⟨c', c1, c2⟩ := hall y (by subst hl; simp) cs hcs
    have l4 := hcs.c4.1
    have o4 := hcs.c4.2.1
    have p4 := hcs.c4.2.2
    have m4 := c2.c4.1
    obtain ⟨S1, hS1⟩ : ∃ S, st.new (.var z4) = S := ⟨_, rfl⟩
    have a1 : S1.get st.next = some (.var z4) := by rw [← hS1]; exact St.get_new
    have n1 : S1.next = st.next + 1 := by rw [← hS1]; rfl
    have k1 : ∀ u, u < st.next → S1.get u = st.get u := fun u hu => by rw [← hS1]; exact St.get_new_old hu
    obtain ⟨S2, hS2⟩ : ∃ S, S1.put st.next (.var cs) = S := ⟨_, rfl⟩
    have a2 : S2.get st.next = some (.var cs) := by rw [← hS2]; exact St.get_put
    have n2 : S2.next = st.next + 1 := by rw [← hS2]; exact n1
    have k2 : ∀ u, u < st.next → S2.get u = st.get u := fun u hu => by rw [← hS2]; exact (St.get_put_old (by omega)).trans (k1 u hu)
    have hv2 : AccR VC 4 S2 v pre := hv.keep (by omega) (fun u hu => k2 u (hv.tok hu).1)
    obtain ⟨v', S3, r1, r2, _⟩ := hv2.app c2 (bytes := 56) (by subst hl; simp only [List.length_append, List.length_cons] at hb; simp only [Z04]; omega)
    have hw : IntKind.i64.wrap ((pre.length : Int) + 1) = ((pre ++ [y]).length : Int) := by rw [Z00]; simp; omega
    have hi := ihr (pre ++ [y]) S3 v' (by rw [hl]; simp) r2
    have hz : z4.length = 4 := rfl
    refine Ze ?_
    repeat' first | ((with_reducible show V _ _ _ _ _ _); first | refine Zao hlt rfl rfl ?_ | refine Zg8 rfl hi ⟨rfl, rfl, rfl, Z05 hw, trivial⟩ | refine Z1 rfl ?_) | ((with_reducible show VO _ _ _ _ _ _ _); first | refine Zt rfl rfl ay ?_ | refine Z0n rfl l4 ?_ | refine Z5h hS1 rfl ?_ | refine Zb7 hS2 a1 o4 l4 hz rfl rfl rfl ?_ | refine Z07 rfl a2 l4 ?_ | refine Z7 rfl rfl c1 ?_ | refine Z0 (buildSlN m4 hz rfl) ?_ | refine Z7n rfl rfl rfl (okEl1 m4 c2.c4.2.1) (by decide) (by decide) r1 ?_ | refine Z0 rfl ?_ | refine Z2 ?_)
theorem run_cvals {q : PV} {L : List Val} (hq : LR VC q L) (hb : L.length ≤ 512) {f : Nat} (hm : L.all (Zl f) = true) : ∃ q', T.R (.call Zfr [q] q') ∧ LR VC q' L := by
  have hlp := cvals_loop hq hb (fun a ha cs hc => Zj0 f a cs (List.all_eq_true.1 hm a ha) hc) L [] emptySt .nilSl rfl .nil
  obtain ⟨e1, e2, _⟩ := hq.len
  refine Z9v rfl rfl ?_
  repeat' first | refine Z0h rfl hlp ⟨rfl, rfl, rfl, rfl, trivial⟩ ?_ | refine Z1 rfl ?_ | ((with_reducible show VO _ _ _ _ _ _ _); first | refine Z8 rfl e1 e2 ?_ | refine Z0 rfl ?_ | refine Z2 ?_)
  rintro x e st' ⟨rfl, v', rfl, hv'⟩
  obtain ⟨q', w1, w2⟩ := hv'.view (fun _ _ h => h.pl) (by omega)
  repeat' first | refine Zmy rfl rfl w1 w2 | refine Z1 rfl ?_ | refine Z0 rfl ?_ | refine Z2 ?_
def TR {α : Type} (R : St → α → List PV → List Nat → Prop) (sz : Nat) (st : St) (v : PV) (L : List α) (F : List Nat) : Prop :=
  ∃ (es : List (List PV)) (Fs : List (List Nat)), AccT sz st v es ∧ es.length = L.length ∧ Fs.length = L.length ∧ F = (Z0i v).toList ++ Fs.flatten ∧ ∀ (j : Nat) (a : α) (cs : List PV) (G : List Nat), L[j]? = some a → es[j]? = some cs → Fs[j]? = some G → R st a cs G
def Mono {α : Type} (R : St → α → List PV → List Nat → Prop) : Prop := ∀ (st st' : St) (a : α) (cs : List PV) (G : List Nat), R st a cs G → st.next ≤ st'.next → (∀ u ∈ G, st'.get u = st.get u) → R st' a cs G
def Fsh (b : Nat) (F : List Nat) (st : St) : Prop := F.Nodup ∧ ∀ u ∈ F, b ≤ u ∧ u < st.next
theorem Fsh.keep {b : Nat} {F : List Nat} {st st' : St} (h : Fsh b F st) (hn : st.next ≤ st'.next) : Fsh b F st' := ⟨h.1, fun u hu => ⟨(h.2 u hu).1, Nat.lt_of_lt_of_le (h.2 u hu).2 hn⟩⟩
theorem Fsh.app {b : Nat} {F G : List Nat} {st st' : St} (h : Fsh b F st) (k : Fsh st.next G st') (hn : st.next ≤ st'.next) (hb : b ≤ st.next) : Fsh b (F ++ G) st' := ⟨List.nodup_append.2 ⟨h.1, k.1, fun u hu v hv e => by
    have := (h.2 u hu).2
    have := (k.2 v hv).1
    omega⟩, fun u hu => by
    rcases List.mem_append.1 hu with hu | hu
    · have := h.2 u hu
      omega
    · have := k.2 u hu
      omega⟩
section
variable {α : Type} {R : St → α → List PV → List Nat → Prop} {sz : Nat} {st : St} {v : PV} {L : List α} {F : List Nat}
theorem TR.nil : TR R sz st .nilSl ([] : List α) [] := ⟨[], [], .inl ⟨rfl, rfl⟩, rfl, rfl, rfl, fun j a cs G h => by simp at h⟩
theorem TR.keep (hm : Mono R) {st' : St} (h : TR R sz st v L F) (hn : st.next ≤ st'.next) (hk : ∀ u ∈ F, st'.get u = st.get u) : TR R sz st' v L F := by
  obtain ⟨es, Fs, h1, h2, h3, rfl, h5⟩ := h
  exact ⟨es, Fs, Zi0 h1 hn (fun u hu => hk u (by simp [hu])), h2, h3, rfl, fun j a cs G e1 e2 e3 => hm _ _ _ _ _ (h5 j a cs G e1 e2 e3) hn fun u hu => hk u (List.mem_append_right _ (Z5d e3 hu))⟩
theorem TR.shape (h : TR R sz st v L F) : lenOf v = some L.length ∧ Zb2 v = false ∧ PV.one v = true ∧ v.cells = [v] ∧ v.isJunk = false := by
  obtain ⟨es, Fs, h1, h2, _⟩ := h
  rcases h1 with ⟨rfl, rfl⟩ | ⟨t, g, rfl, _⟩
  · have : L = [] := List.length_eq_zero_iff.1 (by simpa using h2.symm)
    subst this
    exact ⟨rfl, rfl, rfl, rfl, rfl⟩
  · exact ⟨by simp [lenOf, h2], rfl, rfl, rfl, rfl⟩
theorem TR.mem (h : TR R sz st v L F) {u : Nat} (hu : Z0i v = some u) : u ∈ F := by
  obtain ⟨es, Fs, h1, h2, h3, rfl, h5⟩ := h
  simp [hu]
theorem TR.app (hm : Mono R) (h : TR R sz st v L F) {a : α} {cs : List PV} {G : List Nat} (ha : R st a cs G) {b bytes : Nat} (hf : Fsh b (F ++ G) st) (hbn : b ≤ st.next) (hb : (L.length + 1) * bytes ≤ Z04) :
    ∃ v' st' F', Z0k st sz bytes v [cs] = some (v', st') ∧ TR R sz st' v' (L ++ [a]) F' ∧ Fsh b F' st' ∧ Grow st v st' v' := by
  obtain ⟨es, Fs, h1, h2, h3, rfl, h5⟩ := h
  obtain ⟨v', st', k1, k2, k3⟩ := h1.grow (bytes := bytes) (src := [cs]) (by simp) (by rw [h2]; simpa using hb)
  obtain ⟨f1, f2⟩ := hf
  have hk : ∀ u, u ∈ Fs.flatten ∨ u ∈ G → st'.get u = st.get u := fun u hu => by
    have hmem : u ∈ Fs.flatten ++ G := List.mem_append.2 hu
    refine k3.2.2.2 u (f2 u (by rw [List.append_assoc]; exact List.mem_append_right _ hmem)).2 fun e => ?_
    rw [List.append_assoc, e] at f1
    exact (List.nodup_cons.1 f1).1 hmem
  have hfl : (Fs ++ [G]).flatten = Fs.flatten ++ G := by simp
  refine ⟨v', st', (Z0i v').toList ++ (Fs ++ [G]).flatten, k1, ⟨_, Fs ++ [G], k2, by simp [h2], by simp [h3], rfl, fun j x ds H e1 e2 e3 => ?_⟩, ?_, k3⟩
  · rcases Nat.lt_or_ge j L.length with hlt | hge
    · rw [List.getElem?_append_left hlt] at e1
      rw [List.getElem?_append_left (by omega)] at e2 e3
      exact hm _ _ _ _ _ (h5 j x ds H e1 e2 e3) k3.2.1 fun u hu => hk u (.inl (Z5d e3 hu))
    · rw [List.getElem?_append_right hge] at e1
      rw [List.getElem?_append_right (by omega), h2] at e2
      rw [List.getElem?_append_right (by omega), h3] at e3
      cases hz : j - L.length with
      | zero =>
        rw [hz] at e1 e2 e3
        simp at e1 e2 e3
        subst e1 e2 e3
        exact hm _ _ _ _ _ ha k3.2.1 fun u hu => hk u (.inr hu)
      | succ i => rw [hz] at e1; simp at e1
  · rw [hfl]
    rcases k3.2.2.1 with e | ⟨t, e, ht⟩
    · rw [e, ← List.append_assoc]
      exact ⟨f1, fun u hu => ⟨(f2 u hu).1, Nat.lt_of_lt_of_le (f2 u hu).2 k3.2.1⟩⟩
    · rw [e]
      have hlt : t < st'.next := by
        rcases k2 with ⟨rfl, _⟩ | ⟨t', g, rfl, _, hl⟩
        · cases e
        · injection e with e
          subst e
          exact hl
      rw [List.append_assoc] at f1 f2
      refine ⟨List.nodup_cons.2 ⟨fun hu => ?_, (List.nodup_append.1 f1).2.1⟩, fun u hu => ?_⟩
      · have := (f2 t (List.mem_append_right _ hu)).2
        omega
      · rcases List.mem_cons.1 hu with rfl | hu
        · omega
        · have := f2 u (List.mem_append_right _ hu)
          have := k3.2.1
          omega
end
def SubT (n : Nat) (st : St) (l : List Stp) (cs : List PV) (G : List Nat) : Prop := ∃ q, cs = [q] ∧ OT n st q l G
def StpT (n : Nat) (st : St) (s : Stp) (cs : List PV) (G : List Nat) : Prop := OS (OT n) st cs s G
theorem SubT.mono (n : Nat) : Mono (SubT n) := fun st st' a cs G ⟨q, e, h⟩ hn hk => ⟨q, e, h.keep n hn hk⟩
theorem StpT.mono (n : Nat) : Mono (StpT n) := fun st st' a cs G h hn hk => OS.keep (fun p l F h hk => OT.keep n h hn hk) h hn hk
theorem ot_tr {n : Nat} {st : St} {p : PV} {l : List Stp} {F : List Nat} : OT (n + 1) st p l F ↔ TR (StpT n) 6 st p l F := Iff.rfl
theorem osubs_tr {n : Nat} {st : St} {p : PV} {l : List (List Stp)} {F : List Nat} : OSubs (OT n) st p l F ↔ TR (SubT n) 1 st p l F := Iff.rfl
theorem OT.shape {n : Nat} {st : St} {p : PV} {l : List Stp} {F : List Nat} (h : OT n st p l F) : lenOf p = some l.length ∧ Zb2 p = false ∧ PV.one p = true ∧ p.cells = [p] ∧ p.isJunk = false := by
  cases n with
  | zero => obtain ⟨rfl, rfl, _⟩ := h; exact ⟨rfl, rfl, rfl, rfl, rfl⟩
  | succ n => exact TR.shape (ot_tr.1 h)
theorem all32 {p : Prop} [Decidable p] {a b : List Int} (h1 : a.all (fun x => decide (x ≤ 32)) = true) (h2 : b.all (fun x => decide (x ≤ 32)) = true) : (if p then a else b).all (fun x => decide (x ≤ 32)) = true := by
  by_cases h : p
  · rw [if_pos h]; exact h1
  · rw [if_neg h]; exact h2
theorem shp32 (op : Int) : (shp op).all (fun x => decide (x ≤ 32)) = true := by
  unfold shp
  repeat (refine all32 rfl ?_)
  rfl
theorem stepB_len {op : Int} {names : List (List UInt8)} {nums : List Int} {preds : List Prd} {vals : List Val} {k : Nat} (h : Zf3 op names nums preds vals k = true) : names.length ≤ 32 ∧ nums.length ≤ 32 ∧ preds.length ≤ 32 ∧ vals.length ≤ 32 ∧ k ≤ 32 ∧ preds.all Zgq = true ∧ vals.all (Zl 8) = true := by
  unfold Zf3 at h
  simp only [Bool.and_eq_true] at h
  obtain ⟨⟨⟨⟨⟨_, ha⟩, _⟩, _⟩, hp⟩, hv⟩ := h
  have h32 := shp32 op
  unfold argB at ha
  obtain ⟨a, b, c, d, e, f, g, i, j, m, es⟩ := shp_ten op
  rw [es] at ha h32
  simp only [Zb3, Bool.and_eq_true, decide_eq_true_eq, List.all_cons] at ha h32
  exact ⟨by omega, by omega, by omega, by omega, by omega, hp, hv⟩
theorem predB_len {op : Int} {l : List Val} (h : Zgq (.mk op l) = true) : l.length ≤ 32 ∧ l.all (Zl 8) = true := by
  unfold Zgq Zna at h
  simp only [Bool.and_eq_true, Zb3, decide_eq_true_eq] at h
  obtain ⟨⟨_, _, h2⟩, h3⟩ := h
  refine ⟨?_, h3⟩
  by_cases h7 : op = 7 ∨ op = 8
  · rw [if_pos h7] at h2; simp only at h2; omega
  · rw [if_neg h7] at h2
    by_cases h9 : op = 9
    · rw [if_pos h9] at h2; simp only at h2; omega
    · rw [if_neg h9] at h2; simp only at h2; omega
theorem okLL_mem : ∀ {subs : List (List Stp)}, Zcb subs = true → ∀ {l : List Stp}, l ∈ subs → Zkp l = true
  | [], _, l, hl => by cases hl
  | x :: r, h, l, hl => by
    unfold Zcb at h
    simp only [Bool.and_eq_true] at h
    rcases List.mem_cons.1 hl with rfl | hl
    · exact h.1.2
    · exact okLL_mem h.2 hl
def Sh (p : PV) : Prop := p = .nilSl ∨ ∃ xs f, p = .sl xs f
theorem Z8p {α : Type} {R : α → List PV → Prop} {p : PV} {l : List α} (h : LR R p l) : Sh p := by
  rcases h with ⟨rfl, _⟩ | ⟨xs, f, rfl, _⟩
  · exact .inl rfl
  · exact .inr ⟨_, _, rfl⟩
theorem Sh.one {p : PV} (h : Sh p) : PV.one p = true := by rcases h with rfl | ⟨_, _, rfl⟩ <;> rfl
theorem bld6 {a b d : PV} (ha : Sh a) (hb : Sh b) (hd : Sh d) {o : Int} {look : Nat → Option Tok} {e : EC} {i0 i1 i2 i4 : Nat} (h0 : e.get i0 = some (.int .i64 o)) (h1 : e.get i1 = some a) (h2 : e.get i2 = some b) (h4 : e.get i4 = some d) :
    Zo look e (.build [.int .i64 0, .nilSl, .nilSl, .nilSl, .nilSl, .nilSl] [(0, 1, .t i0), (1, 1, .t i1), (2, 1, .t i2), (4, 1, .t i4)]) = some (.agg [.int .i64 o, a, b, .nilSl, d, .nilSl]) := by
  simp only [Zo, Z6e, Opd.get, h0, h1, h2, h4]
  rcases ha with rfl | ⟨_, _, rfl⟩ <;> rcases hb with rfl | ⟨_, _, rfl⟩ <;> rcases hd with rfl | ⟨_, _, rfl⟩ <;> rfl
theorem bld2 {a : PV} (ha : Sh a) {o : Int} {look : Nat → Option Tok} {e : EC} {i0 i1 : Nat} (h0 : e.get i0 = some (.int .i64 o)) (h1 : e.get i1 = some a) : Zo look e (.build [.int .i64 0, .nilSl] [(0, 1, .t i0), (1, 1, .t i1)]) = some (.agg [.int .i64 o, a]) := by
  simp only [Zo, Z6e, Opd.get, h0, h1]
  rcases ha with rfl | ⟨_, _, rfl⟩ <;> rfl
theorem bldS1 {v : PV} (h1 : v.cells = [v]) (h2 : v.isJunk = false) {look : Nat → Option Tok} {e : EC} {i : Nat} (hi : e.get i = some v) : Zo look e (.buildSl 1 [[.nilSl]] [(0, .t i)]) = some (.sl [[v]] true) := by
  simp only [Zo, Z6e, Zmi, Opd.get, hi]
  simp [Z1t, Z0v, h1, h2]
theorem put_cell {st S' : St} {m off : Nat} {cs ds : List PV} {v : PV} (hg : st.get m = some (.var cs)) (hc : v.cells = [v]) (h1 : PV.one v = true) (ho' : Nat.blt off cs.length = true) (hd : cs.set off v = ds) (hS : st.put m (.var ds) = S') {e : EC} {a x : Opd} (ha : a.get e = some (.ptr m off)) (hx : x.get e = some v) : Z1c st e (.store 1 a x) = some (.tuple [], S') := by
  have ho : off < cs.length := Nat.le_of_ble_eq_true ho'
  subst hS hd
  simp only [Z1c, ha, hx, hc]
  rw [if_pos ⟨by simp [h1], rfl, by decide⟩]
  simp only [storeAt, hg, hc]
  rw [if_pos (show off + [v].length ≤ cs.length from ho)]
  simp only [Option.map_some, Z8z]
  congr 3
  rw [List.set_eq_take_append_cons_drop, if_pos ho]
  simp
theorem PrC.c2 {x : Prd} {cs : List PV} (h : PrC x cs) : cs.length = 2 ∧ (∀ c ∈ cs, PV.one c = true) ∧ ∀ c ∈ cs, Pl c := by
  obtain ⟨op, l⟩ := x
  have hp := PrC.pl h
  obtain ⟨_, p, rfl, h2⟩ := h
  exact ⟨rfl, by simp [PV.one]; exact (Z8p h2).one, hp⟩
set_option maxHeartbeats 4000000 in
theorem cpreds_loop {preds : List Prd} {pc : PV} (hc : LR PrC pc preds) (hb : preds.length ≤ 32) (hv : preds.all Zgq = true) {m : Nat} {c t5 p L I o pa pb pd : PV} : ∀ (rest pre : List Prd) (st : St) (vp : PV), preds = pre ++ rest →
    st.get m = some (.var [o, pa, pb, vp, pd, .nilSl]) → m < st.next → AccR PrC 2 st vp pre → (∀ u, Z0i vp = some u → m < u) →
    V T (PE fun x e st' => x = .exit 2 ∧ e = Zj [(3, c), (5, t5), (6, .ptr m 0), (11, p), (12, L), (13, I)] ∧ ∃ vp', st'.get m = some (.var [o, pa, pb, vp', pd, .nilSl]) ∧ AccR PrC 2 st' vp' preds ∧ (∀ u, Z0i vp' = some u → m < u) ∧ st'.base = st.base ∧ st.next ≤ st'.next ∧ ∀ u, u < m → st'.get u = st.get u)
      [.code (.loop Zbq)] .normal (Zj [(3, c), (5, t5), (6, .ptr m 0), (11, p), (12, L), (13, I), (30, pc), (31, .int .i64 preds.length), (32, .int .i64 pre.length)]) st := by
  intro rest
  induction rest with
  | nil =>
    intro pre st vp hl hg hm hA ht
    have hlt : decide ((pre.length : Int) < preds.length) = false := decide_eq_false (by subst hl; simp)
    have hA' : AccR PrC 2 st vp preds := by
      rw [hl, List.append_nil]
      exact hA
    refine Ze ?_
    repeat' first | ((with_reducible show V _ _ _ _ _ _); first | refine Z6s hlt rfl rfl ?_ | refine Z0w [(3, c), (5, t5), (6, .ptr m 0), (11, p), (12, L), (13, I)] rfl ⟨rfl, rfl, rfl, rfl, rfl, rfl, trivial⟩ ⟨rfl, rfl, vp, hg, hA', ht, rfl, Nat.le_refl _, fun _ _ => rfl⟩ | refine Z1 rfl ?_) | refine Z0 rfl ?_ | refine Z2 ?_
  | cons y rest ihr =>
    intro pre st vp hl hg hm hA ht
    have hlt : decide ((pre.length : Int) < preds.length) = true := decide_eq_true (by subst hl; simp; omega)
    have hpl : pre.length < preds.length := by subst hl; simp
    obtain ⟨cs, ay, hcs⟩ := hc.at (sz := 2) (fun _ _ h => h.c2.1) (j := pre.length) (a := y) (by subst hl; simp)
    have l2 := hcs.c2.1
    have o2 := hcs.c2.2.1
    have yv : Zgq y = true := List.all_eq_true.1 hv y (by subst hl; simp)
    obtain ⟨yo, yl⟩ := y
    obtain ⟨b1, b2⟩ := predB_len yv
    obtain ⟨io, q, rfl, hq⟩ := hcs
    have plq : Pl q := hq.pl fun _ _ _ h => h.pl
    obtain ⟨q', c1, c2⟩ := run_cvals hq (by omega) b2
    obtain ⟨S1, hS1⟩ : ∃ S, st.new (.var [.int .i64 0, .nilSl]) = S := ⟨_, rfl⟩
    have a1 : S1.get st.next = some (.var [.int .i64 0, .nilSl]) := by rw [← hS1]; exact St.get_new
    have n1 : S1.next = st.next + 1 := by rw [← hS1]; rfl
    have e1 : S1.base = st.base := by rw [← hS1]; rfl
    have k1 : ∀ u, u < st.next → S1.get u = st.get u := fun u hu => by rw [← hS1]; exact St.get_new_old hu
    obtain ⟨S2, hS2⟩ : ∃ S, S1.put st.next (.var [.int .i64 yo, q]) = S := ⟨_, rfl⟩
    have a2 : S2.get st.next = some (.var [.int .i64 yo, q]) := by rw [← hS2]; exact St.get_put
    have n2 : S2.next = st.next + 1 := by rw [← hS2]; exact n1
    have e2 : S2.base = st.base := by rw [← hS2]; exact e1
    have k2 : ∀ u, u < st.next → S2.get u = st.get u := fun u hu => by rw [← hS2]; exact (St.get_put_old (by omega)).trans (k1 u hu)
    have g2 : S2.get m = some (.var [o, pa, pb, vp, pd, .nilSl]) := (k2 m hm).trans hg
    have hA2 : AccR PrC 2 S2 vp pre := hA.keep (by omega) (fun u hu => k2 u (hA.tok hu).1)
    have hy : PrC (.mk yo yl) [.int .i64 yo, q'] := ⟨io, q', rfl, c2⟩
    obtain ⟨v', S3, r1, r2, r3⟩ := hA2.app hy (bytes := 32) (by subst hl; simp only [List.length_append, List.length_cons] at hb; simp only [Z04]; omega)
    have t3 : ∀ u, Z0i v' = some u → m < u := fun u hu => by
      rcases r3.2.2.1 with e | ⟨t, e, h⟩
      · exact ht u (e ▸ hu)
      · rw [e] at hu
        injection hu with hu
        omega
    have n3 := r3.2.1
    have k3 : ∀ u, u ≤ m → S3.get u = S2.get u := fun u hu => r3.2.2.2 u (by omega) fun e => by
      have := ht u e
      omega
    have g3 : S3.get m = some (.var [o, pa, pb, vp, pd, .nilSl]) := (k3 m (Nat.le_refl _)).trans g2
    obtain ⟨S4, hS4⟩ : ∃ S, S3.put m (.var [o, pa, pb, v', pd, .nilSl]) = S := ⟨_, rfl⟩
    have g4 : S4.get m = some (.var [o, pa, pb, v', pd, .nilSl]) := by rw [← hS4]; exact St.get_put
    have n4 : S4.next = S3.next := by rw [← hS4]; rfl
    have e4 : S4.base = st.base := by rw [← hS4]; exact r3.1.trans e2
    have k4 : ∀ u, u ≠ m → S4.get u = S3.get u := fun u hu => by rw [← hS4]; exact St.get_put_old (fun e => hu e.symm)
    have hA4 : AccR PrC 2 S4 v' (pre ++ [.mk yo yl]) := r2.keep (by omega) (fun u hu => k4 u (by have := t3 u hu; omega))
    have hw : IntKind.i64.wrap ((pre.length : Int) + 1) = ((pre ++ [Prd.mk yo yl]).length : Int) := by rw [Z00]; simp; omega
    have hi := ihr (pre ++ [.mk yo yl]) S4 v' (by rw [hl]; simp) g4 (by omega) hA4 t3
    have hx2 : S3.get st.next = some (.var [.int .i64 yo, q]) := (r3.2.2.2 st.next (by omega) fun e => by have := (hA.tok e).1; omega).trans a2
    have hx4 : S4.get st.next = some (.var [.int .i64 yo, q]) := (k4 st.next (by omega)).trans hx2
    have hall := Zb6 (Q := fun s' => s'.get st.next = some (.var [.int .i64 yo, q])) (a := S2) (r := [S2, S3, S4]) ⟨a2, a2, hx2, hx4⟩
    have hld : ∀ {e : EC} {a : Opd}, a.get e = some (.ptr m 3) → Zo S2.get e (.load 1 false a) = some vp := fun {e a} ha => by
      simp only [Zo, Zcc, ha, loadAt, behind, g2, Option.bind_some, slice?]
      rfl
    have hcv : v'.cells = [v'] := by
      obtain ⟨es, h, _⟩ := r2
      rcases h with ⟨rfl, _⟩ | ⟨t, g, rfl, _⟩ <;> rfl
    have hok : okEls 2 [[.int .i64 yo, q']] = true := okEl1 rfl hy.c2.2.1
    refine Ze ?_
    repeat' first | ((with_reducible show V _ _ _ _ _ _); first | refine Zao hlt rfl rfl ?_ | refine V_C (mkC [1, 9, 11] [some 37, some 45, none] S2 [S2, S3, S4] none) rfl rfl ?_ | refine Ziz (Zg8 rfl hi ⟨rfl, rfl, rfl, rfl, rfl, rfl, rfl, rfl, Z05 hw, trivial⟩) ?_ | refine Z1 rfl ?_) | ((with_reducible show VO _ _ _ _ _ _ _); first | refine Zt rfl rfl ay ?_ | refine Z0n rfl rfl ?_ | refine Z5h hS1 rfl ?_ | refine Zb7 hS2 a1 o2 rfl rfl rfl rfl rfl ?_ | refine Z0 rfl ?_ | refine Z2 ?_) | ((with_reducible show Go.AM.VC _ _ _ _ _ _ _ _ _ _); first | refine C_move rfl rfl rfl rfl rfl rfl rfl (hld rfl) ?_ | refine C_call rfl rfl rfl rfl (fun _ => Z08) c1 ?_ | refine Zn4 rfl rfl rfl hall rfl ?_ | refine Zn1 rfl rfl (fun _ => bld2 (Z8p c2) rfl rfl) ?_ | refine C_append rfl rfl rfl rfl rfl rfl rfl rfl rfl rfl hok (by decide) (by decide) r1 ?_ | refine Zn2 rfl rfl rfl rfl rfl (put_cell (off := 3) g3 hcv r2.one rfl rfl hS4 rfl rfl) ?_ | refine Zn1 rfl rfl (fun _ => rfl) ?_ | refine C_nil rfl rfl ?_)
    rintro x e st' ⟨rfl, rfl, vp', z1, z2, z3, z4, z5, z6⟩
    exact ⟨rfl, rfl, vp', z1, z2, z3, z4.trans e4, by omega, fun u hu => (z6 u hu).trans ((k4 u (by omega)).trans ((k3 u (by omega)).trans (k2 u (by omega))))⟩
theorem Zml : ∀ {subs : List (List Stp)} {l : List Stp}, l ∈ subs → Zg l ≤ Z28 subs
  | [], l, hl => by cases hl
  | x :: r, l, hl => by
    rw [Z28]
    rcases List.mem_cons.1 hl with rfl | hl
    · omega
    · have := Zml hl
      omega
theorem cntS_mem : ∀ {l : List Stp} {s : Stp}, s ∈ l → Zef s ≤ Zg l
  | [], s, hs => by cases hs
  | x :: r, s, hs => by
    rw [Zg]
    rcases List.mem_cons.1 hs with rfl | hs
    · omega
    · have := cntS_mem hs
      omega
theorem Zhk : ∀ l : List Stp, l.length ≤ Zg l
  | [] => Nat.le_refl _
  | x :: r => by
    rw [Zg, List.length_cons]
    have := Zhk r
    omega
def CloneR (n : Nat) : Prop := ∀ (l : List Stp) (p : PV), SL n p l → Zkp l = true → Zg l ≤ 134217728 → ∀ st : St, ∃ v' st' F, T.R (.raw Zax [p] st v' st') ∧ OT n st' v' l F ∧ Fsh st.next F st' ∧ Grow st .nilSl st' v'
set_option maxHeartbeats 4000000 in
theorem csubs_loop {n : Nat} (ihc : CloneR n) {subs : List (List Stp)} {pe : PV} (he : LR (SubC (SC n)) pe subs) (hb : subs.length ≤ 32) (hv : Zcb subs = true) (hcn : Z28 subs ≤ 134217728) {m : Nat} {c p L I o pa pb pc pd : PV} : ∀ (rest pre : List (List Stp)) (st : St) (ve : PV) (F : List Nat), subs = pre ++ rest →
    st.get m = some (.var [o, pa, pb, pc, pd, ve]) → m < st.next → TR (SubT n) 1 st ve pre F → Fsh (m + 1) F st →
    V T (PE fun x e st' => x = .exit 4 ∧ e = Zj [(3, c), (6, .ptr m 0), (11, p), (12, L), (13, I)] ∧ ∃ ve' F', st'.get m = some (.var [o, pa, pb, pc, pd, ve']) ∧ TR (SubT n) 1 st' ve' subs F' ∧ Fsh (m + 1) F' st' ∧ st'.base = st.base ∧ st.next ≤ st'.next ∧ ∀ u, u < m → st'.get u = st.get u)
      [.code (.loop Zbr)] .normal (Zj [(3, c), (6, .ptr m 0), (11, p), (12, L), (13, I), (49, pe), (50, .int .i64 subs.length), (51, .int .i64 pre.length)]) st := by
  intro rest
  induction rest with
  | nil =>
    intro pre st ve F hl hg hm hA hF
    have hlt : decide ((pre.length : Int) < subs.length) = false := decide_eq_false (by subst hl; simp)
    have hA' : TR (SubT n) 1 st ve subs F := by
      rw [hl, List.append_nil]
      exact hA
    refine Ze ?_
    repeat' first | ((with_reducible show V _ _ _ _ _ _); first | refine Z6s hlt rfl rfl ?_ | refine Z0w [(3, c), (6, .ptr m 0), (11, p), (12, L), (13, I)] rfl ⟨rfl, rfl, rfl, rfl, rfl, trivial⟩ ⟨rfl, rfl, ve, F, hg, hA', hF, rfl, Nat.le_refl _, fun _ _ => rfl⟩ | refine Z1 rfl ?_) | refine Z0 rfl ?_ | refine Z2 ?_
  | cons y rest ihr =>
    intro pre st ve F hl hg hm hA hF
    have hlt : decide ((pre.length : Int) < subs.length) = true := decide_eq_true (by subst hl; simp; omega)
    have hpl : pre.length < subs.length := by subst hl; simp
    obtain ⟨cs, ay, hcs⟩ := he.at (sz := 1) (fun _ _ h => by obtain ⟨_, rfl, _⟩ := h; rfl) (j := pre.length) (a := y) (by subst hl; simp)
    obtain ⟨q, rfl, hq⟩ := hcs
    have hoky : Zkp y = true := okLL_mem hv (by subst hl; simp)
    obtain ⟨v1, st1, F1, c1, c2, c3, c4⟩ := ihc y q hq hoky (Nat.le_trans (Zml (by subst hl; simp)) hcn) ⟨st.next, st.next, st.toks⟩
    obtain ⟨S1, hS1⟩ : ∃ S : St, (⟨st.base, st1.next, st1.toks⟩ : St) = S := ⟨_, rfl⟩
    have n1 : st.next ≤ S1.next := by rw [← hS1]; exact c4.2.1
    have e1 : S1.base = st.base := by rw [← hS1]
    have k1 : ∀ u, u < st.next → S1.get u = st.get u := fun u hu => by rw [← hS1]; exact c4.2.2.2 u hu (by simp [Z0i])
    have w1 : OT n S1 v1 y F1 := c2.keep n (by rw [← hS1]; exact Nat.le_refl _) (fun u _ => by rw [← hS1]; rfl)
    have f1 : Fsh st.next F1 S1 := c3.keep (by rw [← hS1]; exact Nat.le_refl _)
    have g1 : S1.get m = some (.var [o, pa, pb, pc, pd, ve]) := (k1 m hm).trans hg
    have hA1 : TR (SubT n) 1 S1 ve pre F := hA.keep (SubT.mono n) n1 (fun u hu => k1 u (hF.2 u hu).2)
    have hF1 : Fsh (m + 1) (F ++ F1) S1 := hF.app f1 n1 (by omega)
    obtain ⟨v2, S2, F2, r1, r2, r3, r4⟩ := hA1.app (SubT.mono n) (a := y) (cs := [v1]) ⟨v1, rfl, w1⟩ hF1 (bytes := 24) (by omega) (by subst hl; simp only [List.length_append, List.length_cons] at hb; simp only [Z04]; omega)
    have n2 := r4.2.1
    have k2 : ∀ u, u ≤ m → S2.get u = S1.get u := fun u hu => r4.2.2.2 u (by omega) fun e => by
      have := (hF.2 u (hA.mem e)).1
      omega
    have g2 : S2.get m = some (.var [o, pa, pb, pc, pd, ve]) := (k2 m (Nat.le_refl _)).trans g1
    obtain ⟨S3, hS3⟩ : ∃ S, S2.put m (.var [o, pa, pb, pc, pd, v2]) = S := ⟨_, rfl⟩
    have g3 : S3.get m = some (.var [o, pa, pb, pc, pd, v2]) := by rw [← hS3]; exact St.get_put
    have n3 : S3.next = S2.next := by rw [← hS3]; rfl
    have e3 : S3.base = st.base := by rw [← hS3]; exact r4.1.trans e1
    have k3 : ∀ u, u ≠ m → S3.get u = S2.get u := fun u hu => by rw [← hS3]; exact St.get_put_old (fun e => hu e.symm)
    have hA3 : TR (SubT n) 1 S3 v2 (pre ++ [y]) F2 := r2.keep (SubT.mono n) (by omega) (fun u hu => k3 u (by have := (r3.2 u hu).1; omega))
    have hF3 : Fsh (m + 1) F2 S3 := r3.keep (by omega)
    have hw : IntKind.i64.wrap ((pre.length : Int) + 1) = ((pre ++ [y]).length : Int) := by rw [Z00]; simp; omega
    have hi := ihr (pre ++ [y]) S3 v2 F2 (by rw [hl]; simp) g3 (by omega) hA3 hF3
    obtain ⟨_, _, s3, s4, s5⟩ := w1.shape
    obtain ⟨_, _, s6, s7, s8⟩ := r2.shape
    have hok : okEls 1 [[v1]] = true := okEl1 rfl (by simpa using s3)
    have hearly : ∀ {e : EC} {a : Opd}, a.get e = some (.ptr m 5) → ∀ u, u ≤ 2 → Zo ((mkN [3, 4, 5, 7] [some 58, some 59, some 60, none] st [S1, S1, S2, S3] [[], [], [56], []]).S u).get e (.load 1 false a) = some ve := fun {e a} ha u hu => by
      have hh : ∀ s : St, s.get m = some (.var [o, pa, pb, pc, pd, ve]) → Zo s.get e (.load 1 false a) = some ve := fun s hs => by
        simp only [Zo, Zcc, ha, loadAt, behind, hs, Option.bind_some, slice?]
        rfl
      match u, hu with
      | 0, _ => exact hh st hg
      | 1, _ => exact hh S1 g1
      | 2, _ => exact hh S1 g1
    refine Ze ?_
    repeat' first | ((with_reducible show V _ _ _ _ _ _); first | refine Zao hlt rfl rfl ?_ | refine V_C (mkN [3, 4, 5, 7] [some 58, some 59, some 60, none] st [S1, S1, S2, S3] [[], [], [56], []]) rfl rfl ?_ | refine Ziz (Zg8 rfl hi ⟨rfl, rfl, rfl, rfl, rfl, rfl, rfl, Z05 hw, trivial⟩) ?_ | refine Z1 rfl ?_) | ((with_reducible show VO _ _ _ _ _ _ _); first | refine Zt rfl rfl ay ?_ | refine Z0 rfl ?_ | refine Z2 ?_) | ((with_reducible show Go.AM.VC _ _ _ _ _ _ _ _ _ _); first | refine C_early 2 rfl rfl rfl rfl (hearly rfl) ?_ | refine Zkx rfl rfl rfl rfl rfl rfl rfl rfl c1 c4.1 hS1.symm ?_ | refine C_move rfl rfl rfl rfl rfl rfl rfl (bldS1 s4 s5 rfl) ?_ | refine C_append rfl rfl rfl rfl rfl rfl rfl rfl rfl rfl hok (by decide) (by decide) r1 ?_ | refine Zn2 rfl rfl rfl rfl rfl (put_cell (off := 5) g2 s7 s6 rfl rfl hS3 rfl rfl) ?_ | refine Zn1 rfl rfl (fun _ => rfl) ?_ | refine C_nil rfl rfl ?_)
    rintro x e st' ⟨rfl, rfl, ve', F', z1, z2, z3, z4, z5, z6⟩
    exact ⟨rfl, rfl, ve', F', z1, z2, z3, z4.trans e3, by omega, fun u hu => (z6 u hu).trans ((k3 u (by omega)).trans ((k2 u (by omega)).trans (k1 u (by omega))))⟩
end Go.Proofs.YtnedeokclnbcpaaGreatDoor
