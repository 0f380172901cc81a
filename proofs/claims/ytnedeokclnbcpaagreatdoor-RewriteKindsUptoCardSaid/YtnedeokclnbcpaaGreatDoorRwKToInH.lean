/- Steps in a shorter way: of which kinds what comes is (plain). · What comes of steps, by the reference (rambleref17): what is plain. · The kinds of values; what suits a step, what comes of a plain one: rambleref17.Kind, Suits, plain, unfold. -/
import Derived.Test.YtnedeokclnbcpaaGreatDoorRwPToRwA
import Derived.Test.YtnedeokclnbcpaaGreatDoorRwBbToInfA
import Derived.Test.YtnedeokclnbcpaaGreatDoorRwUToRwBa
import Derived.Test.YtnedeokclnbcpaaGreatDoorStpEToStpF
set_option linter.unusedVariables false
set_option linter.unusedSimpArgs false
namespace Go.Proofs.YtnedeokclnbcpaaGreatDoor
open Go Go.AM Go.RowKit
def Ref (f f':KF):Prop:=∀i, KS i→(f i).2=0→f' i=f i
def RefE (f f':KF):Prop:=∀i, KS i→(f i).2=0→(f' i).2=0
theorem Ref.e {f f':KF} (h:Ref f f'):RefE f f':=fun i hi h0=>by rw [h i hi h0];exact h0
theorem Ref.refl (f:KF):Ref f f:=fun i _ _=>rfl
theorem Ref.trans {f g h:KF} (a:Ref f g) (b:Ref g h):Ref f h:=fun i hi h0=>by
 have h1:=a i hi h0
 rw [b i hi (by rw [h1];exact h0), h1]
theorem ks_and {i:Nat} (h:KS i):i&&&254=i:=Zkm h
theorem llF_ne {l:List Stp} {r:List (List Stp)}:llF (l::r)≠[]:=by rw [llF];simp
theorem Zm7 {op:Int} {names kind:Nat} (h:Z2s op names kind=(254, 0, true)) (nums:List Int) (fs:List KF) {i:Nat} (hi:KS i) (hu:op≠40):Zmr op names nums kind fs i=if fs≠[] then Z23 op nums fs i else (i, 0):=by
 unfold Zmr
 rw [h]
 simp only [ks_and hi, hu, if_false, if_true]
 rw [if_neg (by rintro ⟨h1, h2⟩;exact h1 h2)]
 split
 ·rfl
 ·by_cases hz:i=0
  ·subst hz
   split
   ·rfl
   ·simp
  ·rw [if_neg (by rintro ⟨h1, _⟩;exact hz h1)]
theorem Zm8 {op:Int} (h:op=19∨op=20∨op=21∨op=22∨op=23∨op=24∨op=25∨op=26∨op=27∨op=28∨op=44∨op=45∨op=50∨op=51∨op=52∨op=53∨op=54∨op=55∨op=56∨op=60) (names kind:Nat):Z2s op names kind=(254, 0, true)∧op≠40:=by
 rcases h with h|h|h|h|h|h|h|h|h|h|h|h|h|h|h|h|h|h|h|h<;>subst h<;>exact ⟨by simp [Z2s], by decide⟩
theorem Zms (op:Int) (names:List (List UInt8)) (nums:List Int) (preds:List Prd) (vals:List Val) (subs:List (List Stp)):stF (.mk op names nums preds vals subs)=Zmr op names.length nums (Zfd vals) (llF subs):=by rw [stF]
theorem Z5o {op:Int} (h:op=19∨op=24∨op=25∨op=26∨op=27∨op=28∨op=44∨op=45∨op=60) (names:List (List UInt8)) (nums:List Int) (preds:List Prd) (vals:List Val) {i:Nat} (hi:KS i):stF (.mk op names nums preds vals []) i=(i, 0):=by
 obtain ⟨h1, h2⟩:=Zm8 (op:=op) (by rcases h with h|h|h|h|h|h|h|h|h<;>simp [h]) names.length (Zfd vals)
 rw [Zms, Zm7 h1 _ _ hi h2, llF]
 simp
theorem Zhp {op:Int} (h:op=20∨op=21∨op=22∨op=23) (names:List (List UInt8)) (nums:List Int) (preds:List Prd) (vals:List Val) (l:List Stp) (r:List (List Stp)) {i:Nat} (hi:KS i):
  stF (.mk op names nums preds vals (l::r)) i=if (Z0s (llF (l::r)) i).2=0 then (i, 0) else (0, (Z0s (llF (l::r)) i).2):=by
 obtain ⟨h1, h2⟩:=Zm8 (op:=op) (by rcases h with h|h|h|h<;>simp [h]) names.length (Zfd vals)
 rw [Zms, Zm7 h1 _ _ hi h2, if_pos llF_ne]
 unfold Z23
 rw [if_neg (by rcases h with h|h|h|h<;>subst h<;>decide), if_neg (by rcases h with h|h|h|h<;>subst h<;>decide)]
 simp only [h, if_true]
theorem outs_ok1 {f:KF} {i:Nat}:(Z0s [f] i).2=0↔(f i).2=0:=by
 simp only [Z0s]
 split
 ·rename_i h;simp [h]
 ·rename_i h;simp [h]
theorem Znz {y:Stp} {i:Nat} (hi:KS i):(Z0d (lF [y]) i).2=(stF y i).2∧((stF y i).2=0→Z0d (lF [y]) i=stF y i):=by
 have e:lF [y]=[stF y]:=by rw [lF, lF]
 have h2:(stF y i).2=0→((stF y i).1, (0:Int))=stF y i:=fun h=>by
  rw [←h]
 rw [e]
 unfold Z0d
 rw [ks_and hi, Zmt, Zmt]
 split
 ·rename_i h
  exact ⟨h.symm, fun _=>h2 h⟩
 ·rename_i h
  exact ⟨rfl, fun h'=>absurd h' h⟩
theorem Zd5 {subs:List (List Stp)} (h:subs.length=1):∃l, subs=[l]:=List.length_eq_one_iff.1 h
theorem asks_ok {x:Stp} (hx:okS x=true) (h:x.op=20∨x.op=21) {i:Nat} (hi:KS i) (h0:(stF x i).2=0):stF x i=(i, 0)∧(Z0s (llF x.subs) i).2=0:=by
 obtain ⟨k1, _⟩:=wn_sub1 hx (by rcases h with h|h<;>simp [wnB, h])
 obtain ⟨op, names, nums, preds, vals, subs⟩:=x
 obtain ⟨l, rfl⟩:=Zd5 k1
 rw [Zhp (by rcases h with h|h<;>(have h:op=_:=h)<;>simp [h]) _ _ _ _ l [] hi] at h0 ⊢
 split at h0
 ·rename_i hz
  rw [if_pos hz]
  exact ⟨rfl, hz⟩
 ·rename_i hz
  exact absurd h0 hz
theorem ref_id {s:Stp} (h:∀i, KS i→(stF s i).2=0→stF s i=(i, 0)) {x:Stp} (hx:∀i, KS i→stF x i=(i, 0)):Ref (stF s) (stF x):=fun i hi h0=>by rw [hx i hi, h i hi h0]
theorem Ze7 {i:Nat} (hi:KS i):stF idS i=(i, 0):=Z5o (by simp) _ _ _ _ hi
theorem rlS_ref {s x:Stp} (hs:okS s=true) (h:rlS s=some x):Ref (stF s) (stF x):=by
 obtain ⟨op, names, nums, preds, vals, subs⟩:=s
 obtain ⟨h1, h2, h3⟩:=Z9y hs
 replace h:rlO op nums subs=some x:=h
 have ask1:∀ {l:List Stp}, (op=20∨op=21∨op=22∨op=23)→subs=[l]→∀ {i:Nat}, KS i→(stF (.mk op names nums preds vals subs) i).2=0→stF (.mk op names nums preds vals subs) i=(i, 0)∧(Z0d (lF l) i).2=0:=by
  rintro l ho rfl i hi h0
  rw [Zhp ho _ _ _ _ l [] hi] at h0 ⊢
  split at h0
  ·rename_i hz
   rw [if_pos hz]
   rw [llF, llF, outs_ok1] at hz
   exact ⟨rfl, hz⟩
  ·rename_i hz
   exact absurd h0 hz
 have sub1:∀ {y:Stp}, (op=20∨op=21∨op=52)→subs.headD []=[y]→subs=[[y]]:=by
  intro y ho hy
  have:subs.length=1:=by
   rcases ho with rfl|rfl|rfl
   ·have:=(Z3y (op:=20) rfl h1).2.2.2.2;omega
   ·have:=(Z3y (op:=21) rfl h1).2.2.2.2;omega
   ·have:=(Z3y (op:=52) rfl h1).2.2.2.2;omega
  obtain ⟨l, rfl⟩:=Zd5 this
  simp only [List.headD_cons] at hy
  rw [hy]
 unfold rlO at h
 split at h
 ·rename_i ho
  split at h
  ·rename_i hl
   injection h with h
   subst h
   obtain ⟨l, rfl⟩:=Zd5 hl
   intro i hi h0
   obtain ⟨e1, e2⟩:=ask1 (l:=l) (by rcases ho with h|h<;>simp [h]) rfl hi h0
   rw [e1, Zh, Zhp (.inl rfl) _ _ _ _ l [] hi, llF, llF, if_pos (outs_ok1.2 e2)]
  ·cases h
 ·split at h
  ·rename_i ho
   obtain ⟨y, hy, rfl⟩:=Option.map_eq_some_iff.1 h
   obtain ⟨a1, a2⟩:=Z19 hy
   have hyo:=Zaz h3 a1
   have hsub:=sub1 (.inr (.inl ho)) a1
   have ho2:y.op=20∨y.op=21:=by simpa [wnB] using a2
   obtain ⟨k1, _⟩:=wn_sub1 hyo a2
   intro i hi h0
   obtain ⟨e1, e2⟩:=ask1 (l:=[y]) (.inr (.inl ho)) hsub hi h0
   rw [(Znz hi).1] at e2
   obtain ⟨_, e3⟩:=asks_ok hyo ho2 hi e2
   obtain ⟨l, hl⟩:=Zd5 k1
   rw [e1, notS, Zh, hl, Zhp (by split<;>simp) _ _ _ _ l [] hi, ←hl, if_pos e3]
  ·split at h
   ·rename_i ho
    obtain ⟨a1, a2⟩:=Z19 h
    have hyo:=Zaz h3 a1
    have hsub:=sub1 (.inl ho) a1
    have ho2:x.op=20∨x.op=21:=by simpa [wnB] using a2
    intro i hi h0
    obtain ⟨e1, e2⟩:=ask1 (l:=[x]) (.inl ho) hsub hi h0
    rw [(Znz hi).1] at e2
    rw [e1]
    exact (asks_ok hyo ho2 hi e2).1
   ·split at h
    ·rename_i ho
     split at h
     ·rename_i hz
      injection h with h
      subst h
      refine ref_id (fun i hi h0=>?_) (fun i hi=>Ze7 hi)
      rcases ho with rfl|rfl
      ·have hsl:=(Z3y (op:=54) rfl h1).2.2.2.2
       obtain ⟨l, rfl⟩:=Zd5 (subs:=subs) (by omega)
       obtain ⟨r1, r2⟩:=Zm8 (op:=54) (by simp) names.length (Zfd vals)
       rw [Zms, Zm7 r1 _ _ hi r2, if_pos llF_ne] at h0 ⊢
       unfold Z23 at h0 ⊢
       rw [if_pos (.inl rfl), hz, if_neg (by decide), if_neg (by decide)] at h0 ⊢
       simp only at h0
       rw [h0]
      ·have hsl:=(Z3y (op:=27) rfl h1).2.2.2.2
       obtain rfl:subs=[]:=len0 hsl
       exact Z5o (by simp) _ _ _ _ hi
     ·cases h
    ·split at h
     ·rename_i ho
      obtain ⟨a1, a2⟩:=Z19 h
      have hyo:=Zaz h3 a1
      have hsub:=sub1 (.inr (.inr ho)) a1
      have hx:x=idS:=id_of hyo (by simpa using a2)
      subst hx ho hsub
      refine ref_id (fun i hi h0=>?_) (fun i hi=>Ze7 hi)
      obtain ⟨r1, r2⟩:=Zm8 (op:=52) (by simp) names.length (Zfd vals)
      have hin:Z0d (lF [idS]) i=(i, 0):=by
       rw [(Znz hi).2 (by rw [Ze7 hi]), Ze7 hi]
      have ho:Z0s (llF [[idS]]) i=([i], 0):=by
       rw [llF, llF]
       simp only [Z0s, hin, if_true]
      rw [Zms, Zm7 r1 _ _ hi r2, if_pos llF_ne]
      unfold Z23
      rw [if_neg (by decide), if_neg (by decide), ho]
      simp only [if_true]
      rw [if_neg (by decide), if_neg (by decide)]
      simp [orL]
     ·split at h
      ·rename_i ho
       subst ho
       have hsl:=(Z3y (op:=28) rfl h1).2.2.2.2
       obtain rfl:subs=[]:=len0 hsl
       have hp:∀n i, KS i→stF (limS n) i=(i, 0):=fun n i hi=>Z5o (by simp) _ _ _ _ hi
       have hs:∀i, KS i→(stF (.mk 28 names nums preds vals []) i).2=0→stF (.mk 28 names nums preds vals []) i=(i, 0):=fun i hi _=>Z5o (by simp) _ _ _ _ hi
       split at h
       ·injection h with h
        subst h
        exact ref_id hs (hp _)
       ·split at h
        ·injection h with h
         subst h
         exact ref_id hs (hp _)
        ·cases h
      ·cases h
theorem simS_ref:∀s:Stp, okS s=true→Ref (stF s) (stF (Z4u s)):=
 Zhs (fun s h _=>by rw [Zam h];exact Ref.refl _) (fun s x h ih hs=>by rw [Zal h];exact (rlS_ref hs h).trans (ih (rlS_ok hs h)))
theorem seqF_app:∀(f g:List KF) (i:Nat), Zmt (f++g) i=if (Zmt f i).2=0 then Zmt g (Zmt f i).1 else (0, (Zmt f i).2)
 |[], g, i=>by simp [Zmt]
 |a::f, g, i=>by
  rw [List.cons_append, Zmt, Zmt]
  split
  ·exact seqF_app f g _
  ·rename_i h;simp only [h, if_false]
theorem lF_app:∀l m:List Stp, lF (l++m)=lF l++lF m
 |[], m=>by rw [lF];rfl
 |s::l, m=>by rw [List.cons_append, lF, lF, lF_app l m];rfl
abbrev sem (l:List Stp):KF:=Zmt (lF l)
theorem sem_ks (l:List Stp) {i:Nat} (h:KS i):KS (sem l i).1:=(Zd8 (Zk4 l)).1 i h
theorem sem_app (l m:List Stp) (i:Nat):sem (l++m) i=if (sem l i).2=0 then sem m (sem l i).1 else (0, (sem l i).2):=by
 unfold sem
 rw [lF_app, seqF_app]
theorem sem_one (s:Stp) (i:Nat):sem [s] i=if (stF s i).2=0 then ((stF s i).1, 0) else (0, (stF s i).2):=by
 unfold sem
 rw [lF, lF, Zmt, Zmt]
theorem Zjp {l m:List Stp} {i:Nat} (h:(sem (l++m) i).2=0):(sem l i).2=0∧(sem m (sem l i).1).2=0∧sem (l++m) i=sem m (sem l i).1:=by
 rw [sem_app] at h ⊢
 split at h
 ·rename_i hz
  rw [if_pos hz]
  exact ⟨hz, h, rfl⟩
 ·rename_i hz
  exact absurd h hz
theorem Z8b {l l' m m':List Stp} (h1:Ref (sem l) (sem l')) (h2:Ref (sem m) (sem m')):Ref (sem (l++m)) (sem (l'++m')):=fun i hi h0=>by
 obtain ⟨a1, a2, a3⟩:=Zjp h0
 have e1:=h1 i hi a1
 rw [a3, sem_app, e1, if_pos a1]
 exact h2 _ (sem_ks l hi) a2
theorem Zgb {s s':Stp} (h:Ref (stF s) (stF s')):Ref (sem [s]) (sem [s']):=fun i hi h0=>by
 rw [sem_one] at h0 ⊢
 rw [sem_one]
 split at h0
 ·rename_i hz
  have:=h i hi hz
  rw [this]
 ·rename_i hz
  exact absurd h0 hz
theorem Zph {s:Stp} {i:Nat} (h:(sem [s] i).2=0):(stF s i).2=0∧sem [s] i=stF s i:=by
 rw [sem_one] at h ⊢
 split at h
 ·rename_i hz
  rw [if_pos hz]
  exact ⟨hz, by rw [←hz]⟩
 ·rename_i hz
  exact absurd h hz
theorem Zgd {s:Stp} {i:Nat} (h:(stF s i).2=0):sem [s] i=stF s i:=by
 rw [sem_one, if_pos h, ←h]
theorem filt_twice {a:Stp} (ha:okS a=true) (hf:filtB a=true) {i:Nat} (hi:KS i) (h0:(stF a i).2=0):stF a (stF a i).1=stF a i:=by
 obtain ⟨op, names, nums, preds, vals, subs⟩:=a
 obtain ⟨h1, h2, h3⟩:=Z9y ha
 have hsub:∀ {op':Int} {a b c d e f g h:Int}, op=op'→shp op'=[a, b, c, d, e, f, g, h, 0, 0]→subs=[]:=by
  intro op' a b c d e f g h ho hs
  subst ho
  exact len0 (Z3y hs h1).2.2.2.2
 unfold filtB at hf
 split at hf
 ·rename_i ho
  replace ho:op=14∨op=15∨op=16∨op=17∨op=18∨op=19∨op=25:=ho
  have el:∀ {op':Int}, op=op'→subs=[]→Z2s op' names.length (Zfd vals)=(192, 0, true)→op'≠40→op'≠35∧op'≠39∧op'≠48→stF (.mk op names nums preds vals subs) (stF (.mk op names nums preds vals subs) i).1=stF (.mk op names nums preds vals subs) i:=by
   rintro op' rfl rfl hr h40 hne
   have hv:∀j, KS j→stF (.mk op names nums preds vals []) j=if j≠0∧j&&&192=0 then (0, 170) else (j&&&192, 0):=by
    intro j hj
    rw [Zms, llF]
    unfold Zmr
    rw [hr]
    simp only [h40, if_false, if_true]
    split
    ·rfl
    ·rw [if_neg (by simp)]
     by_cases hz:j=0
     ·subst hz
      rw [if_pos ⟨rfl, hne⟩]
      simp
     ·rw [if_neg (by rintro ⟨h, _⟩;exact hz h)]
   rw [hv i hi] at h0 ⊢
   split at h0
   ·cases h0
   ·rename_i hz
    rw [if_neg hz, hv _ (Z2v (Zek _ _) hi)]
    have hz2:(i&&&192)&&&192=i&&&192:=Zkm (Z47 _ _)
    rw [hz2, if_neg (by rintro ⟨h, h'⟩;exact h h')]
  rcases ho with rfl|rfl|rfl|rfl|rfl|rfl|rfl
  ·exact el rfl (hsub rfl rfl) (by simp [Z2s]) (by decide) (by decide)
  ·exact el rfl (hsub rfl rfl) (by simp [Z2s]) (by decide) (by decide)
  ·exact el rfl (hsub rfl rfl) (by simp [Z2s]) (by decide) (by decide)
  ·exact el rfl (hsub rfl rfl) (by simp [Z2s]) (by decide) (by decide)
  ·exact el rfl (hsub rfl rfl) (by simp [Z2s]) (by decide) (by decide)
  ·obtain rfl:=hsub rfl rfl
   rw [Z5o (by simp) _ _ _ _ hi]
   exact Z5o (by simp) _ _ _ _ hi
  ·obtain rfl:=hsub rfl rfl
   rw [Z5o (by simp) _ _ _ _ hi]
   exact Z5o (by simp) _ _ _ _ hi
 ·split at hf
  ·rename_i ho
   replace ho:op=20∨op=21∨op=22∨op=23:=ho
   have hne:∃l r, subs=l::r:=by
    cases subs with
    |cons l r=>exact ⟨l, r, rfl⟩
    |nil=>
     exfalso
     rcases ho with rfl|rfl|rfl|rfl<;>have:=(Z3y rfl h1).2.2.2.2<;>simp at this
   obtain ⟨l, r, rfl⟩:=hne
   have e:=Zhp ho names nums preds vals l r hi
   rw [e] at h0 ⊢
   split at h0
   ·rename_i hz
    rw [if_pos hz]
    simp only
    rw [e, if_pos hz]
   ·rename_i hz
    exact absurd h0 hz
  ·cases hf
theorem joinS_ref {a b x:Stp} (ha:okS a=true) (hb:okS b=true) (h:Zb7 a b=some x):Ref (sem [a, b]) (sem [x]):=by
 have hsplit:∀ {i:Nat}, (sem [a, b] i).2=0→(stF a i).2=0∧(stF b (stF a i).1).2=0∧sem [a, b] i=stF b (stF a i).1:=by
  intro i h0
  have:sem [a, b] i=sem ([a]++[b]) i:=rfl
  rw [this] at h0 ⊢
  obtain ⟨a1, a2, a3⟩:=Zjp h0
  obtain ⟨b1, b2⟩:=Zph a1
  rw [b2] at a2 a3
  obtain ⟨c1, c2⟩:=Zph a2
  exact ⟨b1, c1, by rw [a3, c2]⟩
 have pass:∀ {s:Stp}, okS s=true→(s.op=24∨s.op=26∨s.op=27∨s.op=44∨s.op=45)→∀ {i:Nat}, KS i→stF s i=(i, 0):=by
  intro s hs ho i hi
  obtain ⟨op, names, nums, preds, vals, subs⟩:=s
  obtain ⟨h1, _, _⟩:=Z9y hs
  replace ho:op=24∨op=26∨op=27∨op=44∨op=45:=ho
  have:subs=[]:=by rcases ho with rfl|rfl|rfl|rfl|rfl<;>exact len0 (Z3y rfl h1).2.2.2.2
  subst this
  exact Z5o (by rcases ho with h|h|h|h|h<;>simp [h]) _ _ _ _ hi
 have lim:∀o n {i:Nat}, (o=26∨o=27)→KS i→stF (numS o n) i=(i, 0):=fun o n i ho hi=>Z5o (by rcases ho with h|h<;>simp [h]) _ _ _ _ hi
 intro i hi h0
 obtain ⟨e1, e2, e3⟩:=hsplit h0
 rw [e3]
 unfold Zb7 at h
 split at h
 ·rename_i ho
  have ho:a.op=44∨a.op=45:=by simpa [ordB] using ho
  have ea:=pass ha (by rcases ho with h|h<;>simp [h]) hi
  rw [ea] at e2 ⊢
  split at h
  ·injection h with h
   subst h
   exact Zgd e2
  ·cases h
 ·split at h
  ·cases h
  ·rename_i heq
   have heq:a.op=b.op:=Classical.not_not.1 heq
   split at h
   ·rename_i ho
    injection h with h
    subst h
    have ea:=pass ha (.inl ho) hi
    rw [ea]
    simp only
    rw [pass hb (.inl (heq ▸ ho)) hi, Zgd (by rw [ea]), ea]
   ·split at h
    ·rename_i ho
     injection h with h
     subst h
     have ea:=pass ha (.inr (.inl ho)) hi
     rw [ea]
     simp only
     rw [pass hb (.inr (.inl (heq ▸ ho))) hi, Zgd (by rw [lim _ _ (.inl rfl) hi]), lim _ _ (.inl rfl) hi]
    ·split at h
     ·rename_i ho
      split at h
      ·injection h with h
       subst h
       have ea:=pass ha (.inr (.inr (.inl ho))) hi
       rw [ea]
       simp only
       rw [pass hb (.inr (.inr (.inl (heq ▸ ho)))) hi, Zgd (by rw [lim _ _ (.inr rfl) hi]), lim _ _ (.inr rfl) hi]
      ·cases h
     ·split at h
      ·rename_i hf
       injection h with h
       subst h
       rw [Bool.and_eq_true] at hf
       have hab:a=b:=by simpa [eqSB] using hf.2
       subst hab
       rw [filt_twice ha hf.1 hi e1]
       exact Zgd e1
      ·cases h
theorem sem_id:Ref (sem []) (sem [idS]):=fun i hi h0=>by
 rw [Zgd (by rw [Ze7 hi]), Ze7 hi]
 rfl
theorem id_sem:Ref (sem [idS]) (sem []):=fun i hi h0=>by
 rw [Zgd (by rw [Ze7 hi]), Ze7 hi]
 rfl
theorem putR_ref:∀(l:List Stp) (s:Stp), okA l→okS s=true→Ref (sem (l.reverse++[s])) (sem (Zbv l s).reverse)
 |[], s, hl, hs=>by
  have h1:=Zgb (simS_ref s hs)
  unfold Zbv
  split
  ·rename_i ho
   rw [id_of (Zjo s hs) ho] at h1
   exact h1.trans id_sem
  ·exact h1
 |a::r, s, hl, hs=>by
  have h1:Ref (sem ((a::r).reverse++[s])) (sem ((a::r).reverse++[Z4u s])):=Z8b (Ref.refl _) (Zgb (simS_ref s hs))
  have ha:=hl a (.head _)
  have hr:okA r:=fun y hy=>hl y (.tail _ hy)
  have hss:=Zjo s hs
  unfold Zbv
  split
  ·rename_i ho
   rw [id_of hss ho] at h1
   have h2:Ref (sem ((a::r).reverse++[idS])) (sem ((a::r).reverse++[])):=Z8b (Ref.refl _) id_sem
   rw [List.append_nil] at h2
   exact h1.trans h2
  ·split
   ·rename_i x hx
    have h2:Ref (sem (r.reverse++[a, Z4u s])) (sem (r.reverse++[x])):=Z8b (Ref.refl _) (joinS_ref ha hss hx)
    have e:(a::r).reverse++[Z4u s]=r.reverse++[a, Z4u s]:=by simp
    rw [e] at h1
    exact (h1.trans h2).trans (putR_ref r x hr (joinS_ok ha hss hx))
   ·have e:(Z4u s::a::r).reverse=(a::r).reverse++[Z4u s]:=by simp
    rw [e]
    exact h1
def RefLL (op:Int):Nat→List KF→List KF→Prop
 |_, [], []=>True
 |k, f::r, g::t=>RefE f g∧(askB op k=false→Ref f g)∧RefLL op (k+1) r t
 |_, _, _=>False
theorem refLL_len {op:Int}:∀ {k:Nat} {fs gs:List KF}, RefLL op k fs gs→(fs=[]↔gs=[])
 |_, [], [], _=>⟨fun h=>h, fun h=>h⟩
 |_, f::r, g::t, _=>⟨fun h=>(by cases h), fun h=>(by cases h)⟩
theorem Zi0 {op:Int}:∀ {k:Nat} {fs gs:List KF}, RefLL op k fs gs→∀j, RefE (nth fs j) (nth gs j)∧(askB op (k+j)=false→Ref (nth fs j) (nth gs j))
 |_, [], [], _, j=>by
  have:nth [] j=fun _=>(0, 0):=by simp [nth]
  rw [this]
  exact ⟨(Ref.refl _).e, fun _=>Ref.refl _⟩
 |k, f::r, g::t, h, 0=>⟨h.1, fun ha=>h.2.1 ha⟩
 |k, f::r, g::t, h, j+1=>by
  have:=Zi0 h.2.2 j
  rw [show k+1+j=k+(j+1) from by omega] at this
  exact this
theorem Zjs {op:Int}:∀ {k:Nat} {fs gs:List KF}, RefLL op k fs gs→∀ {i:Nat}, KS i→(Z0s fs i).2=0→(Z0s gs i).2=0∧((∀j, k≤j→askB op j=false)→Z0s gs i=Z0s fs i)
 |_, [], [], _, i, _, h=>⟨rfl, fun _=>rfl⟩
 |k, f::r, g::t, hh, i, hi, h=>by
  simp only [Z0s] at h ⊢
  split at h
  ·rename_i h1
   split at h
   ·rename_i h2
    obtain ⟨a1, a2⟩:=Zjs hh.2.2 hi h2
    have g1:=hh.1 i hi h1
    rw [if_pos g1, if_pos a1]
    refine ⟨rfl, fun hk=>?_⟩
    have e1:=hh.2.1 (hk k (Nat.le_refl _)) i hi h1
    have e2:=a2 (fun j hj=>hk j (by omega))
    rw [if_pos h1, if_pos h2, e1, e2]
   ·rename_i h2
    exact absurd h h2
  ·rename_i h1
   exact absurd h h1
theorem refLL_drop {op:Int} {k:Nat} {fs gs:List KF} (hh:RefLL op k fs gs) {i:Nat} (hi:KS i) (h:(Z0s fs i).2=0) (hk:∀j, k+1≤j→askB op j=false):(Z0s gs i).1.drop 1=(Z0s fs i).1.drop 1:=by
 cases fs with
 |nil=>
  cases gs with
  |nil=>rfl
  |cons g t=>exact hh.elim
 |cons f r=>
  cases gs with
  |nil=>exact hh.elim
  |cons g t=>
   simp only [Z0s] at h ⊢
   split at h
   ·rename_i h1
    split at h
    ·rename_i h2
     obtain ⟨a1, a2⟩:=Zjs hh.2.2 hi h2
     have g1:=hh.1 i hi h1
     rw [if_pos g1, if_pos a1, if_pos h1, if_pos h2, a2 (fun j hj=>hk j hj)]
     rfl
    ·rename_i h2
     exact absurd h h2
   ·rename_i h1
    exact absurd h h1
theorem Zjl {f f' g g':KF} (hf:Ref f f') (hg:RefE g g') (hk:∀i, KS i→KS (f i).1):∀(k all i:Nat), KS i→(Z2l f g k all i).2=0→Z2l f' g' k all i=Z2l f g k all i
 |0, all, i, hi, h=>rfl
 |k+1, all, i, hi, h=>by
  simp only [Z2l] at h ⊢
  split at h
  ·rename_i h1
   split at h
   ·rename_i h2
    have e:=hf i hi h1
    have e2:=hg _ (hk i hi) h2
    rw [e, if_pos h1, if_pos e2, if_pos h1, if_pos h2]
    exact Zjl hf hg hk k _ _ (hk i hi) h
   ·rename_i h2
    exact absurd h h2
  ·rename_i h1
   exact absurd h h1
theorem ks_zero:KS 0:=sub_zero _
theorem withinF_ref {op:Int} {nums:List Int} {fs gs:List KF} (hh:RefLL op 0 fs gs) (hk:∀j i, KS i→KS (nth fs j i).1):Ref (Z23 op nums fs) (Z23 op nums gs):=by
 intro i hi h0
 unfold Z23 at h0 ⊢
 split at h0
 ·rename_i ho
  rw [if_pos ho]
  have hn:=Zi0 hh 0
  have ha:askB op 0=false:=by rcases ho with rfl|rfl<;>rfl
  split at h0
  ·rename_i hp
   rw [if_pos hp, if_pos ho, if_pos hp]
   exact Zjl (hn.2 ha) (Ref.refl _).e (hk 0) _ _ _ hi h0
  ·rename_i hp
   rw [if_neg hp, if_pos ho, if_neg hp]
   have e:=hn.2 ha 0 ks_zero h0
   rw [e]
 ·rename_i ho
  rw [if_neg ho]
  split at h0
  ·rename_i h55
   subst h55
   rw [if_pos rfl, if_neg ho, if_pos rfl]
   exact Zjl ((Zi0 hh 1).2 rfl) (Zi0 hh 0).1 (hk 1) _ _ _ hi h0
  ·rename_i h55
   rw [if_neg h55, if_neg ho, if_neg h55]
   split at h0
   ·rename_i hz
    obtain ⟨a1, a2⟩:=Zjs hh hi hz
    rw [if_pos a1, if_pos hz]
    split
    ·rfl
    ·rename_i hq
     split
     ·rename_i h53
      subst h53
      rw [refLL_drop hh hi hz (fun j hj=>by cases j with
       |zero=>omega
       |succ j=>simp [askB])]
     ·rename_i h53
      have hask:∀j, 0≤j→askB op j=false:=fun j _=>by
       simp only [not_or] at hq
       simp [askB, hq, h53, h55]
      rw [a2 hask]
   ·rename_i hz
    exact absurd h0 hz
theorem stepF_ref {op:Int} {names:Nat} {nums:List Int} {kind:Nat} {fs gs:List KF} (hh:RefLL op 0 fs gs) (hk:∀j i, KS i→KS (nth fs j i).1):Ref (Zmr op names nums kind fs) (Zmr op names nums kind gs):=by
 intro i hi h0
 unfold Zmr at h0 ⊢
 split at h0
 ·cases h0
 ·rename_i h1
  rw [if_neg h1, if_neg h1]
  split at h0
  ·rename_i h2
   rw [if_pos h2, if_pos (fun e=>h2 ((refLL_len hh).2 e))]
   exact withinF_ref hh hk _ (Z2v (Zek _ _) hi) h0
  ·rename_i h2
   rw [if_neg h2, if_neg (fun e=>h2 (fun e2=>e ((refLL_len hh).1 e2)))]
theorem sem_pre {l m:List Stp}:RefE (sem (l++m)) (sem l):=fun i hi h0=>(Zjp h0).1
theorem trimR_pre:∀l:List Stp, ∃m, l.reverse=(Zjk l).reverse++m
 |[]=>⟨[], rfl⟩
 |[s]=>⟨[], by simp [Zjk]⟩
 |s::a::r=>by
  unfold Zjk
  split
  ·obtain ⟨m, hm⟩:=trimR_pre (a::r)
   exact ⟨m++[s], by rw [List.reverse_cons, hm];simp⟩
  ·exact ⟨[], by simp⟩
theorem trimS_refE (l:List Stp):RefE (sem l) (sem (trimS l)):=by
 obtain ⟨m, hm⟩:=trimR_pre l.reverse
 rw [List.reverse_reverse] at hm
 unfold trimS
 conv=>lhs;rw [hm]
 exact sem_pre
theorem orId_ref (l:List Stp):Ref (sem l) (sem (orId l)):=by
 unfold orId
 cases l with
 |nil=>exact sem_id
 |cons a r=>exact Ref.refl _
theorem infer_ref {l l':List Stp} (h:Ref (sem l) (sem l')):Ref (Z0d (lF l)) (Z0d (lF l')):=fun i hi h0=>by
 unfold Z0d at h0 ⊢
 exact h _ (Z47 _ _) h0
theorem infer_refE {l l':List Stp} (h:RefE (sem l) (sem l')):RefE (Z0d (lF l)) (Z0d (lF l')):=fun i hi h0=>by
 unfold Z0d at h0 ⊢
 exact h _ (Z47 _ _) h0
theorem nth_ks (ls:List (List Stp)) (j i:Nat) (hi:KS i):KS (nth (llF ls) j i).1:=(Zim (llF_mono ls) j).1 i hi
mutual
theorem rwS_ref:∀s:Stp, okS s=true→Ref (stF s) (stF (rwS s))
 |.mk op nm nu pr va subs, h=>by
  rw [okS, Bool.and_eq_true] at h
  rw [rwS, Zms, Zms]
  exact stepF_ref (rwLL_ref op 0 subs h.2) (fun j i hi=>nth_ks subs j i hi)
theorem rwA_ref:∀(l acc:List Stp), Zjh l=true→okA acc→Ref (sem (acc.reverse++l)) (sem (rwA l acc).reverse)
 |[], acc, h, ha=>by rw [rwA, List.append_nil];exact Ref.refl _
 |s::r, acc, h, ha=>by
  rw [Zjh, Bool.and_eq_true] at h
  rw [rwA]
  have h1:Ref (sem (acc.reverse++[s])) (sem (acc.reverse++[rwS s])):=Z8b (Ref.refl _) (Zgb (rwS_ref s h.1))
  have h2:=h1.trans (putR_ref acc (rwS s) ha (rwS_ok s h.1))
  have h3:Ref (sem (acc.reverse++[s]++r)) (sem ((Zbv acc (rwS s)).reverse++r)):=Z8b h2 (Ref.refl _)
  rw [List.append_assoc] at h3
  exact h3.trans (rwA_ref r _ h.2 (putR_ok acc _ ha (rwS_ok s h.1)))
theorem rwLL_ref:∀(op:Int) (k:Nat) (ls:List (List Stp)), Zbb ls=true→RefLL op k (llF ls) (llF (Zbd op k ls))
 |op, k, [], h=>by rw [Zbd, llF];trivial
 |op, k, l::r, h=>by
  rw [Zbb, Bool.and_eq_true, Bool.and_eq_true] at h
  have h1:Ref (sem l) (sem (orId (rwA l []).reverse)):=(rwA_ref l [] h.1.2 (fun x hx=>by cases hx)).trans (orId_ref _)
  rw [Zbd, llF, llF]
  refine ⟨?_, fun ha=>?_, rwLL_ref op (k+1) r h.2⟩
  ·split
   ·exact infer_refE fun i hi h0=>trimS_refE _ i hi (h1.e i hi h0)
   ·exact (infer_ref h1).e
  ·rw [if_neg (by rw [ha];decide)]
   exact infer_ref h1
end
theorem rwL_ref {l:List Stp} (h:okL l=true):Ref (sem l) (sem (rwL l)):=
 (rwA_ref l [] (okL1_all.2 (okL_all.1 h).2) (fun x hx=>by cases hx)).trans (orId_ref _)
def GoodS1 (op:Int) (nums:List Int) (k:Nat):Prop:=k≤32∧(k≠0→((op=54∨op=56→∃x r, nums=x::r∧0≤x)∧(op=55→2≤k)))
mutual
def gdS:Stp→Prop
 |.mk op _ nums _ _ subs=>GoodS1 op nums subs.length∧gdLL subs
def gdL:List Stp→Prop
 |[]=>True
 |s::r=>gdS s∧gdL r
def gdLL:List (List Stp)→Prop
 |[]=>True
 |l::r=>gdL l∧gdLL r
end
theorem gdL_mem:∀ {l:List Stp}, gdL l→∀s∈l, gdS s
 |[], _, s, h=>by cases h
 |a::r, h, s, hs=>by
  rw [gdL] at h
  rcases List.mem_cons.1 hs with rfl|hs
  ·exact h.1
  ·exact gdL_mem h.2 s hs
theorem Zme:∀ {l:List (List Stp)}, gdLL l→∀s∈l, gdL s
 |[], _, s, h=>by cases h
 |a::r, h, s, hs=>by
  rw [gdLL] at h
  rcases List.mem_cons.1 hs with rfl|hs
  ·exact h.1
  ·exact Zme h.2 s hs
theorem ite_le {p:Prop} [Decidable p] {a b:List Int} (h1:a.getD 9 0≤32) (h2:b.getD 9 0≤32):(if p then a else b).getD 9 0≤32:=by
 by_cases h:p
 ·rw [if_pos h];exact h1
 ·rw [if_neg h];exact h2
theorem shp_32 (op:Int):(shp op).getD 9 0≤32:=by
 unfold shp
 repeat (refine ite_le (by decide) ?_)
 decide
theorem good_of {op:Int} {names:List (List UInt8)} {nums:List Int} {preds:List Prd} {vals:List Val} {k:Nat} (h:Zd7 op names nums preds vals k=true):GoodS1 op nums k:=by
 unfold Zd7 at h
 simp only [Bool.and_eq_true] at h
 have ha:=h.1.1.1.1.2
 have hn:=h.1.1.2
 unfold argB at ha
 obtain ⟨a, b, c, d, e, f, g, hh, i, j, hten⟩:=shp_ten op
 have hk32:k≤32:=by
  have hj:=shp_32 op
  rw [hten] at ha hj
  simp only [Bool.and_eq_true, Zai, decide_eq_true_eq, List.getD_cons_succ, List.getD_cons_zero] at ha hj
  omega
 refine ⟨hk32, fun hk=>⟨fun ho=>?_, fun ho=>?_⟩⟩
 ·have:shp op=[0, 0, 1, 1, 0, 0, 0, 0, 1, 1]:=by rcases ho with rfl|rfl<;>rfl
  rw [this] at ha
  simp only [Bool.and_eq_true, Zai, decide_eq_true_eq] at ha
  cases nums with
  |nil=>simp at ha
  |cons x r=>
   rw [List.all_cons, Bool.and_eq_true, Zmc, Bool.and_eq_true, decide_eq_true_eq] at hn
   exact ⟨x, r, rfl, hn.1.1⟩
 ·have:shp op=[0, 0, 0, 0, 0, 0, 0, 0, 2, 2]:=by subst ho;rfl
  rw [this] at ha
  simp only [Bool.and_eq_true, Zai, decide_eq_true_eq] at ha
  omega
mutual
theorem gdS_of:∀s:Stp, okS s=true→gdS s
 |.mk op names nums preds vals subs, h=>by
  rw [okS, Bool.and_eq_true] at h
  rw [gdS]
  exact ⟨good_of h.1, gdLL_of subs h.2⟩
theorem gdL_of:∀l:List Stp, Zjh l=true→gdL l
 |[], _=>by rw [gdL];trivial
 |s::r, h=>by
  rw [Zjh, Bool.and_eq_true] at h
  rw [gdL]
  exact ⟨gdS_of s h.1, gdL_of r h.2⟩
theorem gdLL_of:∀l:List (List Stp), Zbb l=true→gdLL l
 |[], _=>by rw [gdLL];trivial
 |s::r, h=>by
  rw [Zbb, Bool.and_eq_true, Bool.and_eq_true] at h
  rw [gdLL]
  exact ⟨gdL_of s h.1.2, gdLL_of r h.2⟩
end
theorem outs_len:∀ {fs:List KF} {i:Nat}, (Z0s fs i).2=0→(Z0s fs i).1.length=fs.length
 |[], _, _=>rfl
 |f::r, i, h=>by
  rw [Z0s] at h ⊢
  by_cases c1:(f i).2=0
  ·rw [if_pos c1] at h ⊢
   by_cases c2:(Z0s r i).2=0
   ·rw [if_pos c2]
    simp [outs_len c2]
   ·rw [if_neg c2] at h;exact absurd h c2
  ·rw [if_neg c1] at h;exact absurd h c1
theorem llF_len:∀l:List (List Stp), (llF l).length=l.length
 |[]=>rfl
 |l::r=>by rw [llF];simp [llF_len r]
def inP (x:Nat×Int):PV:=.tuple [.int .i64 (x.1:Int), .int .i64 x.2]
def Zp9 (q:PV) (l:List Stp):Prop:=∀i:Int, T.R (.call Z8w [.int .i64 i, q] (inP (Zkv i l)))
theorem maskI_idem (n:Int):Zb5 n&&&254=Zb5 n:=Zkm (Zen n)
theorem inferI_eq (n:Int) (l:List Stp):Zkv n l=Z0d (lF l) (Zb5 n):=by
 unfold Zkv Z0d
 rw [maskI_idem]
theorem Zj8 {i:Nat} (l:List Stp) (h:KS i):Z0d (lF l) i=Zkv (i:Int) l:=by
 rw [inferI_eq, maskI_nat h]
def infS (i:Int) (l:List Stp):Nat×Int:=if Zl2 l=0 then Zkv i l else (0, Zl2 l)
theorem infS_ks (i:Int) (l:List Stp):KS (infS i l).1:=by
 unfold infS
 split
 ·exact inferI_ks i l
 ·exact sub_zero _
theorem rkind_loop {p:PV} {l:List Val} (hp:LR VC p l):∀(rest pre:List Val) (acc:Nat), l=pre++rest→KS acc→
  V T (PE fun x e st'=>x=.exit 0∧e=Zi [(3, .int .i64 ((rest.foldl kstep acc:Nat):Int))]) [.code (.loop Z69)] .normal (Zi [(0, p), (3, .int .i64 (acc:Int)), (4, .int .i64 pre.length)]) emptySt:=by
 obtain ⟨lp1, lp2, lp3⟩:=hp.len
 have plp:Pl p:=hp.pl fun _ _ _ h=>h.pl
 intro rest
 induction rest with
 |nil=>
  intro pre acc ha hk
  have hlt:¬(pre.length:Int)<l.length:=by subst ha;simp
  refine Ze ?_
  repeat' first|((with_reducible show V _ _ _ _ _ _);first|refine Z72 rfl rfl hlt ?_|refine Z0o [(3, .int .i64 (acc:Int))] rfl ⟨rfl, trivial⟩ ⟨rfl, rfl⟩|refine Z1 rfl ?_)|((with_reducible show VO _ _ _ _ _ _ _);first|refine Z8 rfl lp1 lp2 ?_|refine Z0 rfl ?_|refine Z2 ?_)
 |cons y rest ih=>
  intro pre acc ha hk
  have hlt:(pre.length:Int)<l.length:=by subst ha;simp;omega
  have hll:pre.length<l.length:=by subst ha;simp
  have hy:l[pre.length]?=some y:=by subst ha;simp
  obtain ⟨cy, ay, hc⟩:=hp.at (sz:=4) (fun _ _ h=>h.len4) hy
  have onec:=List.all_eq_true.1 hc.one
  have len4:=hc.len4
  have hw:IntKind.i64.wrap ((pre.length:Int)+1)=((pre++[y]).length:Int):=by rw [Z00];simp;omega
  have hi:=ih (pre++[y]) _ (by rw [ha];simp) (kind_step hk y)
  obtain ⟨k, n, s, vl⟩:=y
  obtain ⟨hk1, hn1, hs1, q, rfl, hq⟩:=hc.open
  rw [List.foldl_cons]
  refine Ze ?_
  by_cases h1:1≤k
  ·by_cases h2:k≤7
   ·have hb:=bit_ks (k:=k) ⟨by omega, h2⟩
    have e1:IntKind.i64.wrap (1 * 2 ^ (min k.toNat IntKind.i64.bits))=((2 ^ k.toNat:Nat):Int):=by
     rw [Nat.min_eq_left (by have:IntKind.i64.bits=64:=rfl;omega), Int.one_mul]
     have:=hb.le
     have e:(2:Int) ^ k.toNat=((2 ^ k.toNat:Nat):Int):=by simp
     rw [e]
     exact wrapN (by omega)
    have e2:PV.int .i64 (IntKind.i64.wrap ((BitVec.ofInt 64 (acc:Int)|||BitVec.ofInt 64 (IntKind.i64.wrap (1 * 2 ^ (min k.toNat IntKind.i64.bits)))).toNat:Int))=PV.int .i64 ((acc|||2 ^ k.toNat:Nat):Int):=Z1y (by rw [e1];exact or_is hk hb)
    have e3:PV.int .u64 (IntKind.u64.wrap k)=PV.int .u64 k:=Z1y (by
     have:IntKind.u64.wrap k=k % 18446744073709551616:=rfl
     rw [this];omega)
    have ek:kstep acc (.mk k n s vl)=acc|||2 ^ k.toNat:=if_pos ⟨by show 0<k;omega, h2⟩
    rw [ek] at hi ⊢
    repeat' first|((with_reducible show V _ _ _ _ _ _);first|refine Z1e rfl rfl hlt ?_|refine Zef rfl hi ⟨rfl, rfl, Z03 hw, trivial⟩|refine Z1 rfl ?_|refine Za rfl rfl ?_)|((with_reducible show VO _ _ _ _ _ _ _);first|refine Z8 rfl lp1 lp2 ?_|refine Zn rfl rfl ay ?_|refine Z3 (Z04 h1) rfl ?_|refine Z3 (Z04 h2) rfl ?_|refine Z3 e3 rfl ?_|refine O_shl rfl rfl (by omega) ?_|refine Z3 e2 rfl ?_|refine Z0 rfl ?_|refine Z2 ?_|refine Zg rfl ?_)
   ·have ek:kstep acc (.mk k n s vl)=acc:=if_neg (fun h=>h2 h.2)
    rw [ek] at hi ⊢
    repeat' first|((with_reducible show V _ _ _ _ _ _);first|refine Z1e rfl rfl hlt ?_|refine Zef rfl hi ⟨rfl, rfl, Z03 hw, trivial⟩|refine Z1 rfl ?_|refine Zb rfl rfl ?_)|((with_reducible show VO _ _ _ _ _ _ _);first|refine Z8 rfl lp1 lp2 ?_|refine Zn rfl rfl ay ?_|refine Z3 (Z04 h1) rfl ?_|refine Z3 (Zd h2) rfl ?_|refine Z0 rfl ?_|refine Z2 ?_|refine Zg rfl ?_)
  ·have ek:kstep acc (.mk k n s vl)=acc:=if_neg (fun h=>h1 (by have:=h.1;show 1≤k;have e:(Val.mk k n s vl).kind=k:=rfl;omega))
   rw [ek] at hi ⊢
   repeat' first|((with_reducible show V _ _ _ _ _ _);first|refine Z1e rfl rfl hlt ?_|refine Zef rfl hi ⟨rfl, rfl, Z03 hw, trivial⟩|refine Z1 rfl ?_|refine Zb rfl rfl ?_)|((with_reducible show VO _ _ _ _ _ _ _);first|refine Z8 rfl lp1 lp2 ?_|refine Zn rfl rfl ay ?_|refine Z3 (Zd h1) rfl ?_|refine Z0 rfl ?_|refine Z2 ?_|refine Zq rfl rfl ?_)
theorem run_rKind {p:PV} {l:List Val} (hp:LR VC p l):T.R (.call Ziq [p] (.int .i64 (Zfd l:Int))):=by
 obtain ⟨lp1, lp2, lp3⟩:=hp.len
 have hl:=rkind_loop hp l [] 0 rfl (sub_zero _)
 refine Z7 rfl rfl ?_
 repeat' first|refine Z0g rfl hl ⟨rfl, rfl, rfl, trivial⟩ ?_|refine Z1 rfl ?_|refine Z0 rfl ?_|refine Z2 ?_
 rintro x e' st' ⟨rfl, rfl⟩
 repeat' first|refine Z1 rfl ?_|refine Z4 rfl rfl ?_|refine Z0 rfl ?_|refine Z2 ?_
 rfl
theorem Zpe {op:Int} {names kd:Nat} (h:¬(op=5∨op=6∨op=7∨op=8∨op=9∨op=10∨op=11∨op=12∨op=13∨op=14∨op=15∨op=16∨op=17∨op=18∨op=58∨op=46∨op=47∨op=30∨op=31∨op=32∨op=33∨op=59∨op=36)) (h48:op≠48∨¬ 0<names):(Z2s op names kd).1=if 1≤op∧op≤60 then 254 else 0:=by
 unfold Z2s
 rw [if_neg (by omega), if_neg (by omega), if_neg (by omega), if_neg (by omega), if_neg (by omega), if_neg (by omega), if_neg (by omega), if_neg (by omega), if_neg (by omega), if_neg (by omega)]
 by_cases e48:op=48
 ·rw [if_pos e48, if_neg (by omega), if_pos (by omega)]
 ·rw [if_neg e48]
  by_cases hr:1≤op∧op≤60
  ·rw [if_pos hr]
   repeat' split
   all_goals rfl
  ·rw [if_neg hr, if_neg (by omega), if_neg (by omega), if_neg (by omega), if_neg (by omega), if_neg (by omega), if_neg (by omega), if_neg hr]
set_option maxHeartbeats 4000000 in
theorem run_Suits {n:Nat} {op:Int} {names:List (List UInt8)} {nums:List Int} {preds:List Prd} {vals:List Val} {subs:List (List Stp)} {cs:List PV} (kd:Nat) (h:SC n (.mk op names nums preds vals subs) cs):
  T.R (.call Zgu [.agg cs] (.int .i64 ((Z2s op names.length kd).1:Int))):=by
 obtain ⟨m, pa, pb, pc, pd, pe, rfl, ho, rfl, h1, h2, h3, h4, h5, pla, plb, plc, pld, ple⟩:=Zpj h
 obtain ⟨la1, la2, la3⟩:=h1.len
 have hW:=Z85 ho
 have hne:PV.bool (decide (Zer op=[]))=PV.bool (!opB op):=Zki (stepW_ne op)
 generalize Zer op=w at *
 clear h1 h2 h3 h4 h5 la3 h
 refine Z7 rfl rfl ?_
 repeat' first|((with_reducible show V _ _ _ _ _ _);first|refine Zeh (by assumption) rfl rfl ?_|refine Z1 rfl ?_|refine Z96 rfl rfl (fun _=>?_) (fun _=>?_)|refine Z4 rfl rfl ?_)|((with_reducible show VO _ _ _ _ _ _ _);first|refine Z8 rfl la1 la2 ?_|refine Z6 rfl rfl hW ?_|refine Z3 hne rfl ?_|refine Z0 rfl ?_|refine Zc rfl ?_|refine Z2 ?_)
 all_goals clear hW hne la1 la2 pla plb plc pld ple
 all_goals simp only [decide_eq_true_eq, decide_eq_false_iff_not] at *
 all_goals first
  |(subst_vars;rfl)
  |(subst_vars;have h':0<names.length:=(by omega);show _=PV.int .i64 (((if 0<names.length then (192, 32, false) else (254, 32, false):Nat×Nat×Bool)).1:Int);rw [if_pos h'];rfl)
  |(have h' := ‹(!opB op)=true›;have h2:¬(1≤op∧op≤60):=(by intro h;simp [opB, h.1, h.2] at h');rw [Zpe (by omega) (by omega), if_neg h2];rfl)
  |(have h' := ‹(!opB op)=false›;have h2:1≤op∧op≤60:=(by simpa [opB] using h');rw [Zpe (by omega) (by omega), if_pos h2];rfl)
def plS (op:Int) (names kd:Nat):Nat×Bool:=if (Z2s op names kd).2.2=true∨¬(1≤op∧op≤60) then (0, false) else ((Z2s op names kd).2.1, true)
theorem plain_rest {op:Int} {names kd:Nat} (h:¬(op=5∨op=6∨op=7∨op=8∨op=9∨op=10∨op=11∨op=12∨op=13∨op=1∨op=4∨op=2∨op=57∨op=30∨op=31∨op=32∨op=33∨op=59∨op=35∨op=49∨op=36∨op=48∨op=3∨op=34∨op=39∨op=41∨op=43)):plS op names kd=(0, false):=by
 unfold plS
 by_cases hr:1≤op∧op≤60
 ·have hc:(Z2s op names kd).2.2=true:=by
   unfold Z2s
   rw [if_neg (by omega), if_neg (by omega), if_neg (by omega)]
   by_cases h4:op=14∨op=15∨op=16∨op=17∨op=18∨op=58∨op=46∨op=47
   ·rw [if_pos h4]
   ·rw [if_neg h4, if_neg (by omega), if_neg (by omega), if_neg (by omega), if_neg (by omega), if_neg (by omega), if_neg (by omega), if_neg (by omega), if_neg (by omega), if_neg (by omega), if_neg (by omega), if_neg (by omega), if_neg (by omega), if_neg (by omega), if_pos hr]
  rw [if_pos (.inl hc)]
 ·rw [if_pos (.inr hr)]
theorem rule43 (names kd:Nat):Z2s 43 names kd=if 1<names then (254, 32, false) else (254, 254, false):=rfl
theorem rule48 (names kd:Nat):Z2s 48 names kd=if 0<names then (192, 32, false) else (254, 32, false):=rfl
theorem pl43 {names:Nat} (kd:Nat) (h:1<names):plS 43 names kd=(32, true):=by
 unfold plS
 rw [rule43, if_pos h]
 rfl
theorem pl43' {names:Nat} (kd:Nat) (h:¬ 1<names):plS 43 names kd=(254, true):=by
 unfold plS
 rw [rule43, if_neg h]
 rfl
theorem pl48 (names kd:Nat):plS 48 names kd=(32, true):=by
 unfold plS
 rw [rule48]
 split<;>rfl
set_option maxHeartbeats 4000000 in
theorem run_plain {n:Nat} {op:Int} {names:List (List UInt8)} {nums:List Int} {preds:List Prd} {vals:List Val} {subs:List (List Stp)} {cs:List PV} (h:SC n (.mk op names nums preds vals subs) cs):
  T.R (.call Zgt [.agg cs] (.tuple [.int .i64 ((plS op names.length (Zfd vals)).1:Int), .bool (plS op names.length (Zfd vals)).2])):=by
 obtain ⟨m, pa, pb, pc, pd, pe, rfl, ho, rfl, h1, h2, h3, h4, h5, pla, plb, plc, pld, ple⟩:=Zpj h
 obtain ⟨la1, la2, la3⟩:=h1.len
 have hk:=run_rKind h4
 generalize Zfd vals=kd at *
 clear h1 h2 h3 h4 h5 la3 h
 refine Z7 rfl rfl ?_
 repeat' first|((with_reducible show V _ _ _ _ _ _);first|refine Zeh (by assumption) rfl rfl ?_|refine Z1 rfl ?_|refine Z96 rfl rfl (fun _=>?_) (fun _=>?_)|refine Z4 rfl rfl ?_)|((with_reducible show VO _ _ _ _ _ _ _);first|refine Z8 rfl la1 la2 ?_|refine Z6 rfl rfl hk ?_|refine Z0 rfl ?_|refine Zc rfl ?_|refine Z2 ?_)
 all_goals clear hk la1 la2 pla plb plc pld ple
 all_goals simp only [decide_eq_true_eq, decide_eq_false_iff_not] at *
 all_goals first
  |(subst_vars;rfl)
  |(subst_vars;rw [pl43 kd (by omega)];rfl)
  |(subst_vars;rw [pl43' kd (by omega)];rfl)
  |(subst_vars;rw [pl48];rfl)
  |(rw [plain_rest (by omega)];rfl)
theorem run_unfold {s:Nat} (hs:KS s):T.R (.call Zf9 [.int .i64 (s:Int)] (.int .i64 (unfS s:Int))):=by
 have hsl:=hs.le
 have hk206:KS (s&&&206):=Z2v (Zek _ _) hs
 have g1:=Z1y (k:=.i64) (andNot_is hs)
 have g2:PV.int .i64 (IntKind.i64.wrap ((BitVec.ofInt 64 (s:Int)&&&BitVec.ofInt 64 (32:Int)).toNat:Int))=PV.int .i64 ((s&&&32:Nat):Int):=Z1y (and_is (b:=32) (by omega) (by omega))
 have g3:PV.int .i64 (IntKind.i64.wrap ((BitVec.ofInt 64 (s:Int)&&&BitVec.ofInt 64 (16:Int)).toNat:Int))=PV.int .i64 ((s&&&16:Nat):Int):=Z1y (and_is (b:=16) (by omega) (by omega))
 have g4:PV.int .i64 (IntKind.i64.wrap ((BitVec.ofInt 64 ((s&&&206:Nat):Int)|||BitVec.ofInt 64 (16:Int)).toNat:Int))=PV.int .i64 (((s&&&206)|||16:Nat):Int):=Z1y (or_is (b:=16) hk206 (Zkl (by decide)))
 have g5:PV.int .i64 (IntKind.i64.wrap ((BitVec.ofInt 64 ((s&&&206:Nat):Int)|||BitVec.ofInt 64 (254:Int)).toNat:Int))=PV.int .i64 (254:Int):=Z1y (by
  rw [show (254:Int)=((254:Nat):Int) from rfl, or_is (b:=254) hk206 (Zkl (by decide))]
  have h1:sub ((s&&&206)|||254) 254:=Zho hk206 (Zej _)
  have h2:sub 254 ((s&&&206)|||254):=sub_inr (Zej _)
  have:=sub_le h1
  have:=sub_le h2
  omega)
 unfold unfS
 by_cases b16:s&&&16=0
 ·have j16:(((s&&&16:Nat):Int)=0):=by omega
  rw [if_neg (fun h=>h b16)]
  by_cases b32:s&&&32=0
  ·have j32:(((s&&&32:Nat):Int)=0):=by omega
   rw [if_neg (fun h=>h b32)]
   refine Z7 rfl rfl ?_
   repeat' first|((with_reducible show V _ _ _ _ _ _);first|refine Z1 rfl ?_|refine Zb rfl rfl ?_|refine Z4 rfl rfl ?_)|((with_reducible show VO _ _ _ _ _ _ _);first|refine Z3 g1 rfl ?_|refine Z3 g2 rfl ?_|refine Z3 g3 rfl ?_|refine Z3 (Z13 j16) rfl ?_|refine Z3 (Z13 j32) rfl ?_|refine Z0 rfl ?_|refine Z2 ?_)
   rfl
  ·have j32:¬(((s&&&32:Nat):Int)=0):=by omega
   rw [if_pos b32]
   refine Z7 rfl rfl ?_
   repeat' first|((with_reducible show V _ _ _ _ _ _);first|refine Z1 rfl ?_|refine Za rfl rfl ?_|refine Zb rfl rfl ?_|refine Z4 rfl rfl ?_)|((with_reducible show VO _ _ _ _ _ _ _);first|refine Z3 g1 rfl ?_|refine Z3 g2 rfl ?_|refine Z3 g3 rfl ?_|refine Z3 g4 rfl ?_|refine Z3 (Z13 j16) rfl ?_|refine Z3 (Z09 j32) rfl ?_|refine Z0 rfl ?_|refine Z2 ?_)
   rfl
 ·have j16:¬(((s&&&16:Nat):Int)=0):=by omega
  rw [if_pos b16]
  by_cases b32:s&&&32=0
  ·have j32:(((s&&&32:Nat):Int)=0):=by omega
   refine Z7 rfl rfl ?_
   repeat' first|((with_reducible show V _ _ _ _ _ _);first|refine Z1 rfl ?_|refine Za rfl rfl ?_|refine Zb rfl rfl ?_|refine Z4 rfl rfl ?_)|((with_reducible show VO _ _ _ _ _ _ _);first|refine Z3 g1 rfl ?_|refine Z3 g2 rfl ?_|refine Z3 g3 rfl ?_|refine Z3 g5 rfl ?_|refine Z3 (Z09 j16) rfl ?_|refine Z3 (Z13 j32) rfl ?_|refine Z0 rfl ?_|refine Z2 ?_)
   rfl
  ·have j32:¬(((s&&&32:Nat):Int)=0):=by omega
   refine Z7 rfl rfl ?_
   repeat' first|((with_reducible show V _ _ _ _ _ _);first|refine Z1 rfl ?_|refine Za rfl rfl ?_|refine Z4 rfl rfl ?_)|((with_reducible show VO _ _ _ _ _ _ _);first|refine Z3 g1 rfl ?_|refine Z3 g2 rfl ?_|refine Z3 g3 rfl ?_|refine Z3 g5 rfl ?_|refine Z3 (Z09 j16) rfl ?_|refine Z3 (Z09 j32) rfl ?_|refine Z0 rfl ?_|refine Z2 ?_)
   rfl
end Go.Proofs.YtnedeokclnbcpaaGreatDoor
