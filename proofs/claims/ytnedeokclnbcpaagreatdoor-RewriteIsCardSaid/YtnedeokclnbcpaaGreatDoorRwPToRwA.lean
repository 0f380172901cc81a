/- Steps in a shorter way: what it is (plain). · Steps in a shorter way: once is enough, no more steps, no deeper (plain). · Two steps as one: the document's words (plain). · Rows of one's own of steps; trees of them. · rewrite.only, rewrite.rule, rewrite.simple. -/
import Derived.Test.YtnedeokclnbcpaaGreatDoorNameAToStpD
import Derived.Test.YtnedeokclnbcpaaGreatDoorAmZ
set_option linter.unusedVariables false
set_option linter.unusedSimpArgs false
namespace Go.Proofs.YtnedeokclnbcpaaGreatDoor
open Go Go.AM Go.RowKit
theorem Z62 {op:Int} {names:List (List UInt8)} {nums:List Int} {preds:List Prd} {vals:List Val} {k:Nat} {a b c d e f g h i j:Int} (hs:shp op=[a, b, c, d, e, f, g, h, i, j]) (hh:argB op names nums preds vals k=true):
  (a≤names.length∧(names.length:Int)≤b)∧(c≤nums.length∧(nums.length:Int)≤d)∧(e≤preds.length∧(preds.length:Int)≤f)∧(g≤vals.length∧(vals.length:Int)≤h)∧(i≤k∧(k:Int)≤j):=by
 unfold argB at hh
 rw [hs] at hh
 simp only [Zcp, Bool.and_eq_true, decide_eq_true_eq] at hh
 obtain ⟨⟨⟨⟨h1, h2⟩, h3⟩, h4⟩, h5⟩:=hh
 exact ⟨h1, h2, h3, h4, h5⟩
theorem len0 {α:Type} {l:List α} (h:(0:Int)≤l.length∧(l.length:Int)≤0):l=[]:=List.length_eq_zero_iff.1 (by omega)
theorem len1 {α:Type} {l:List α} (h:(1:Int)≤l.length∧(l.length:Int)≤1):∃a, l=[a]:=List.length_eq_one_iff.1 (by omega)
theorem Zcb {op:Int} {names:List (List UInt8)} {nums:List Int} {preds:List Prd} {vals:List Val} {subs:List (List Stp)} (h:okS (.mk op names nums preds vals subs)=true):argB op names nums preds vals subs.length=true∧nums.all Zoe=true∧Ze7 subs=true:=by
 rw [okS, Zh8] at h
 simp only [Bool.and_eq_true] at h
 obtain ⟨⟨⟨⟨⟨⟨h1, h2⟩, h3⟩, h4⟩, h5⟩, h6⟩, h7⟩:=h
 exact ⟨h2, h4, h7⟩
def Zj (op:Int) (subs:List (List Stp)):Stp:=.mk op [] [] [] [] subs
def numS (op n:Int):Stp:=.mk op [] [n] [] [] []
abbrev idS:Stp:=Zj 60 []
abbrev limS (n:Int):Stp:=numS 26 n
abbrev skS (n:Int):Stp:=numS 27 n
theorem ok_sub1 {subs:List (List Stp)} (hl:subs.length=1) (h:Ze7 subs=true) {op:Int} (ho:op=20∨op=21):okS (Zj op subs)=true:=by
 rw [Zj, okS, h, Zh8]
 have hb:opB op=true:=by rcases ho with rfl|rfl<;>decide
 have ha:argB op [] [] [] [] subs.length=true:=by rw [hl];rcases ho with rfl|rfl<;>decide
 simp [hb, ha]
theorem ok_num {op n:Int} (ho:op=26∨op=27) (hn:Zoe n=true):okS (numS op n)=true:=by
 rw [numS, okS, Zh8]
 have hb:opB op=true:=by rcases ho with rfl|rfl<;>decide
 have ha:argB op [] [n] [] [] ([]:List (List Stp)).length=true:=by rcases ho with rfl|rfl<;>rfl
 simp only [hb, ha, hn, Ze7, List.all_cons, List.all_nil, Bool.and_true, Bool.and_self]
theorem ok_id:okS idS=true:=by
 rw [idS, Zj, okS, Zh8]
 have ha:argB 60 [] [] [] [] ([]:List (List Stp)).length=true:=by rfl
 simp only [ha, Ze7, opB, List.all_nil, Bool.and_true]
 rfl
def Z1r (l:List Stp) (p:Int→Bool):Option Stp:=match l with
 |[s]=>if p s.op then some s else none
 |_=>none
def wnB (o:Int):Bool:=decide (o=20)||decide (o=21)
def notS (x:Stp):Stp:=Zj (if x.op=20 then 21 else 20) x.subs
def rlO (op:Int) (nums:List Int) (subs:List (List Stp)):Option Stp:=
 if op=22∨op=23 then (if subs.length=1 then some (Zj 20 subs) else none)
 else if op=21 then (Z1r (subs.headD []) wnB).map notS
 else if op=20 then Z1r (subs.headD []) wnB
 else if op=54∨op=27 then (if nums.headD 0=0 then some idS else none)
 else if op=52 then Z1r (subs.headD []) (fun o=>decide (o=60))
 else if op=28 then (if nums.headD 0≥nums.getD 1 0 then some (limS 0) else if nums.headD 0=0 then some (limS (nums.getD 1 0)) else none)
 else none
def rlS (s:Stp):Option Stp:=rlO s.op s.nums s.subs
theorem Z2b {l:List Stp} {p:Int→Bool} {x:Stp} (h:Z1r l p=some x):l=[x]∧p x.op=true:=by
 unfold Z1r at h
 split at h
 ·split at h
  ·injection h with h
   subst h
   exact ⟨rfl, by assumption⟩
  ·cases h
 ·cases h
theorem Zjo {subs:List (List Stp)} {x:Stp} (h:Ze7 subs=true) (hx:subs.headD []=[x]):okS x=true:=by
 match subs, hx with
 |l::r, hx=>
  simp only [List.headD_cons] at hx
  subst hx
  rw [Ze7, Bool.and_eq_true, Bool.and_eq_true, Zlv, Bool.and_eq_true] at h
  exact h.1.2.1
theorem wn_sub1 {x:Stp} (hx:okS x=true) (h:wnB x.op=true):x.subs.length=1∧Ze7 x.subs=true:=by
 obtain ⟨op, names, nums, preds, vals, subs⟩:=x
 obtain ⟨h1, _, h3⟩:=Zcb hx
 have ho:op=20∨op=21:=by
  have h:(decide (op=20)||decide (op=21))=true:=h
  simpa using h
 refine ⟨?_, h3⟩
 show subs.length=1
 rcases ho with rfl|rfl
 ·have:=(Z62 (op:=20) rfl h1).2.2.2.2
  omega
 ·have:=(Z62 (op:=21) rfl h1).2.2.2.2
  omega
theorem num_all {l:List Int} (h:l.all Zoe=true) {j:Nat} {n:Int} (hn:l[j]?=some n):Zoe n=true:=List.all_eq_true.1 h _ (List.mem_of_getElem? hn)
theorem id_of {x:Stp} (hx:okS x=true) (h:x.op=60):x=idS:=by
 obtain ⟨op, names, nums, preds, vals, subs⟩:=x
 obtain rfl:op=60:=h
 obtain ⟨h1, _, _⟩:=Zcb hx
 obtain ⟨a1, a2, a3, a4, a5⟩:=Z62 (op:=60) rfl h1
 rw [len0 a1, len0 a2, len0 a3, len0 a4, len0 a5]
 rfl
theorem rlS_ok {s x:Stp} (hs:okS s=true) (h:rlS s=some x):okS x=true:=by
 obtain ⟨op, names, nums, preds, vals, subs⟩:=s
 obtain ⟨h1, h2, h3⟩:=Zcb hs
 replace h:rlO op nums subs=some x:=h
 unfold rlO at h
 split at h
 ·split at h
  ·rename_i hl
   injection h with h
   subst h
   exact ok_sub1 hl h3 (.inl rfl)
  ·cases h
 ·split at h
  ·obtain ⟨y, hy, rfl⟩:=Option.map_eq_some_iff.1 h
   obtain ⟨e1, e2⟩:=Z2b hy
   obtain ⟨k1, k2⟩:=wn_sub1 (Zjo h3 e1) e2
   exact ok_sub1 k1 k2 (by split<;>simp)
  ·split at h
   ·obtain ⟨e1, e2⟩:=Z2b h
    exact Zjo h3 e1
   ·split at h
    ·split at h
     ·injection h with h
      subst h
      exact ok_id
     ·cases h
    ·split at h
     ·obtain ⟨e1, e2⟩:=Z2b h
      exact Zjo h3 e1
     ·split at h
      ·rename_i h28
       subst h28
       obtain ⟨_, a2, _⟩:=Z62 (op:=28) rfl h1
       split at h
       ·injection h with h
        subst h
        exact ok_num (.inl rfl) (by decide)
       ·split at h
        ·injection h with h
         subst h
         refine ok_num (.inl rfl) ?_
         match nums, a2 with
         |[a, b], _=>exact num_all h2 (j:=1) rfl
        ·cases h
      ·cases h
def flg (o:Int):Nat:=if o=22∨o=23∨o=54∨o=27∨o=52∨o=28 then 1 else 0
def msS (s:Stp):Nat:=2 * cntS s+flg s.op
theorem cntS_eq (s:Stp):cntS s=Z8t s.subs:=by
 obtain ⟨op, names, nums, preds, vals, subs⟩:=s
 rw [cntS]
 rfl
theorem cnt_head {subs:List (List Stp)} {x:Stp} (hx:subs.headD []=[x]):1+cntS x≤Z8t subs:=by
 match subs, hx with
 |l::r, hx=>
  simp only [List.headD_cons] at hx
  subst hx
  rw [Z8t, Zgy, Zgy]
  omega
theorem cnt_mk (o:Int) (subs:List (List Stp)):cntS (Zj o subs)=Z8t subs:=cntS_eq _
theorem Zj1 {s x:Stp} (h:rlS s=some x):msS x<msS s:=by
 obtain ⟨op, names, nums, preds, vals, subs⟩:=s
 replace h:rlO op nums subs=some x:=h
 have hm:msS (.mk op names nums preds vals subs)=2 * Z8t subs+flg op:=by unfold msS;rw [cntS_eq];rfl
 rw [hm]
 have f20:flg 20=0:=by decide
 have f21:flg 21=0:=by decide
 have f60:flg 60=0:=by decide
 have f26:flg 26=0:=by decide
 have hid:msS idS=0:=rfl
 have hlim:∀n, msS (limS n)=0:=fun n=>rfl
 unfold rlO at h
 split at h
 ·rename_i ho
  split at h
  ·injection h with h
   subst h
   have:flg op=1:=by rcases ho with rfl|rfl<;>decide
   show 2 * cntS (Zj 20 subs)+flg 20<_
   rw [cnt_mk]
   omega
  ·cases h
 ·split at h
  ·obtain ⟨y, hy, rfl⟩:=Option.map_eq_some_iff.1 h
   obtain ⟨e1, e2⟩:=Z2b hy
   have hc:=cnt_head e1
   have:flg (if y.op=20 then 21 else 20)=0:=by split<;>assumption
   show 2 * cntS (Zj _ y.subs)+flg (if y.op=20 then 21 else 20)<_
   rw [cnt_mk, ←cntS_eq]
   omega
  ·split at h
   ·obtain ⟨e1, e2⟩:=Z2b h
    have hc:=cnt_head e1
    have hx:x.op=20∨x.op=21:=by simpa [wnB] using e2
    have:flg x.op=0:=by rcases hx with hx|hx<;>rw [hx]<;>assumption
    unfold msS
    omega
   ·split at h
    ·rename_i ho
     split at h
     ·injection h with h
      subst h
      have:flg op=1:=by rcases ho with rfl|rfl<;>decide
      rw [hid]
      omega
     ·cases h
    ·split at h
     ·obtain ⟨e1, e2⟩:=Z2b h
      have hc:=cnt_head e1
      have hx:x.op=60:=by simpa using e2
      unfold msS
      rw [hx]
      omega
     ·split at h
      ·rename_i ho
       subst ho
       have:flg 28=1:=by decide
       split at h
       ·injection h with h
        subst h
        rw [hlim]
        omega
       ·split at h
        ·injection h with h
         subst h
         rw [hlim]
         omega
        ·cases h
      ·cases h
def simF:Nat→Stp→Stp
 |0, s=>s
 |n+1, s=>match rlS s with
  |some x=>simF n x
  |none=>s
def Z7i (s:Stp):Stp:=simF (msS s) s
theorem Z8z {s:Stp} (h:rlS s=none):∀n, simF n s=s
 |0=>rfl
 |n+1=>by simp only [simF, h]
theorem simF_eq:∀(n m:Nat) (s:Stp), msS s≤n→msS s≤m→simF n s=simF m s
 |0, m, s, hn, hm=>by
  cases hr:rlS s with
  |none=>rw [Z8z hr, Z8z hr]
  |some x=>have:=Zj1 hr;omega
 |n+1, 0, s, hn, hm=>by
  cases hr:rlS s with
  |none=>rw [Z8z hr, Z8z hr]
  |some x=>have:=Zj1 hr;omega
 |n+1, m+1, s, hn, hm=>by
  cases hr:rlS s with
  |none=>rw [Z8z hr, Z8z hr]
  |some x=>
   have:=Zj1 hr
   simp only [simF, hr]
   exact simF_eq n m x (by omega) (by omega)
theorem Ziu {s:Stp} (h:rlS s=none):Z7i s=s:=Z8z h _
theorem Zit {s x:Stp} (h:rlS s=some x):Z7i s=Z7i x:=by
 have hl:=Zj1 h
 unfold Z7i
 cases hx:msS s with
 |zero=>omega
 |succ n=>
  simp only [simF, h]
  exact simF_eq n (msS x) x (by omega) (by omega)
theorem simS_ind {P:Stp→Prop} (h0:∀s, rlS s=none→P s) (h1:∀s x, rlS s=some x→P x→P s):∀s, P s:=by
 have:∀(n:Nat) (s:Stp), msS s<n→P s:=by
  intro n
  induction n with
  |zero=>intro s h;omega
  |succ n ih=>
   intro s h
   cases hr:rlS s with
   |none=>exact h0 s hr
   |some x=>exact h1 s x hr (ih x (by have:=Zj1 hr;omega))
 exact fun s=>this (msS s+1) s (by omega)
theorem Znr:∀s:Stp, okS s=true→okS (Z7i s)=true:=
 simS_ind (fun s h hs=>by rw [Ziu h];exact hs) (fun s x h ih hs=>by rw [Zit h];exact ih (rlS_ok hs h))
def Zbc (o:Int):Bool:=decide (o=44)||decide (o=45)
mutual
def wrS:Stp→Bool
 |.mk op _ _ _ _ subs=>(decide (op=4)||decide (op=57)||decide (op=58)||decide (op=59))||wrLL subs
def wrL:List Stp→Bool
 |[]=>false
 |s::r=>wrS s||wrL r
def wrLL:List (List Stp)→Bool
 |[]=>false
 |l::r=>wrL l||wrLL r
end
def Zic (s:Stp):Bool:=
 if s.op=14∨s.op=15∨s.op=16∨s.op=17∨s.op=18∨s.op=19∨s.op=25 then true
 else if s.op=20∨s.op=21∨s.op=22∨s.op=23 then !wrS s
 else false
open Classical in
noncomputable def eqSB (a b:Stp):Bool:=decide (a=b)
def min2 (a b:Int):Int:=if b<a then b else a
open Classical in
noncomputable def Zfg (a b:Stp):Option Stp:=
 if Zbc a.op then (if Zbc b.op=true∨b.op=35 then some b else none)
 else if a.op≠b.op then none
 else if a.op=24 then some a
 else if a.op=26 then some (limS (min2 (a.nums.headD 0) (b.nums.headD 0)))
 else if a.op=27 then (if a.nums.headD 0+b.nums.headD 0≤9007199254740992 then some (skS (a.nums.headD 0+b.nums.headD 0)) else none)
 else if Zic a&&eqSB a b then some a else none
theorem Zep {n:Int} (h:Zoe n=true):0≤n∧n≤9007199254740992:=by simpa [Zoe] using h
theorem Zb0 {s:Stp} (hs:okS s=true) (ho:s.op=26∨s.op=27∨s.op=29∨s.op=54∨s.op=56):∃n, s.nums=[n]∧Zoe n=true:=by
 obtain ⟨op, names, nums, preds, vals, subs⟩:=s
 obtain ⟨h1, h2, _⟩:=Zcb hs
 have h:∃n, nums=[n]:=by
  rcases ho with h|h|h|h|h<;>(obtain rfl:op=_:=h)<;>exact len1 (Z62 rfl h1).2.1
 obtain ⟨n, rfl⟩:=h
 exact ⟨n, rfl, num_all h2 (j:=0) rfl⟩
theorem joinS_ok {a b x:Stp} (ha:okS a=true) (hb:okS b=true) (h:Zfg a b=some x):okS x=true:=by
 unfold Zfg at h
 split at h
 ·split at h
  ·injection h with h;subst h;exact hb
  ·cases h
 ·split at h
  ·cases h
  ·rename_i heq
   have heq:a.op=b.op:=Classical.not_not.1 heq
   split at h
   ·injection h with h;subst h;exact ha
   ·split at h
    ·rename_i ho
     injection h with h
     subst h
     obtain ⟨n, e1, n1⟩:=Zb0 ha (.inl ho)
     obtain ⟨m, e2, n2⟩:=Zb0 hb (.inl (heq ▸ ho))
     refine ok_num (.inl rfl) ?_
     rw [e1, e2]
     show Zoe (min2 n m)=true
     unfold min2
     by_cases hmn:m<n
     ·rw [if_pos hmn];exact n2
     ·rw [if_neg hmn];exact n1
    ·split at h
     ·rename_i ho
      split at h
      ·rename_i hle
       injection h with h
       subst h
       obtain ⟨n, e1, n1⟩:=Zb0 ha (.inr (.inl ho))
       obtain ⟨m, e2, n2⟩:=Zb0 hb (.inr (.inl (heq ▸ ho)))
       refine ok_num (.inr rfl) ?_
       rw [e1, e2] at hle ⊢
       simp only [List.headD_cons] at hle ⊢
       have:=Zep n1
       have:=Zep n2
       simp only [Zoe, Bool.and_eq_true, decide_eq_true_eq]
       omega
      ·cases h
     ·split at h
      ·injection h with h;subst h;exact ha
      ·cases h
noncomputable def Zkj:List Stp→Stp→List Stp
 |[], s=>if (Z7i s).op=60 then [] else [Z7i s]
 |a::r, s=>if (Z7i s).op=60 then a::r else match Zfg a (Z7i s) with
  |some x=>Zkj r x
  |none=>Z7i s::a::r
def okA (l:List Stp):Prop:=∀s∈l, okS s=true
theorem putR_ok:∀(l:List Stp) (s:Stp), okA l→okS s=true→okA (Zkj l s)
 |[], s, hl, hs=>by
  unfold Zkj
  split
  ·exact hl
  ·intro x hx
   simp only [List.mem_singleton] at hx
   subst hx
   exact Znr s hs
 |a::r, s, hl, hs=>by
  unfold Zkj
  split
  ·exact hl
  ·split
   ·rename_i x hx
    exact putR_ok r x (fun y hy=>hl y (.tail _ hy)) (joinS_ok (hl a (.head _)) (Znr s hs) hx)
   ·intro x hx
    rcases List.mem_cons.1 hx with rfl|hx
    ·exact Znr s hs
    ·exact hl x hx
def trB (s:Stp):Bool:=decide (s.op=24)||Zbc s.op||(decide (s.op=26)&&decide (s.nums.length=1)&&decide (0<s.nums.headD 0))
def trimR:List Stp→List Stp
 |[]=>[]
 |[s]=>[s]
 |s::a::r=>if trB s then trimR (a::r) else s::a::r
def trimS (l:List Stp):List Stp:=(trimR l.reverse).reverse
def askB (op:Int) (k:Nat):Bool:=decide (op=20)||decide (op=21)||decide (op=22)||decide (op=23)||((decide (op=53)||decide (op=55))&&decide (k=0))
def orId (l:List Stp):List Stp:=if l.isEmpty then [idS] else l
mutual
noncomputable def rwS:Stp→Stp
 |.mk op nm nu pr va subs=>.mk op nm nu pr va (Zbb op 0 subs)
noncomputable def rwA:List Stp→List Stp→List Stp
 |[], acc=>acc
 |s::r, acc=>rwA r (Zkj acc (rwS s))
noncomputable def Zbb:Int→Nat→List (List Stp)→List (List Stp)
 |_, _, []=>[]
 |op, k, l::r=>(if askB op k then trimS (orId (rwA l []).reverse) else orId (rwA l []).reverse)::Zbb op (k+1) r
end
noncomputable def rwL (l:List Stp):List Stp:=orId (rwA l []).reverse
theorem trimR_sub:∀(l:List Stp), (∀s∈trimR l, s∈l)∧(l≠[]→trimR l≠[])
 |[]=>⟨fun s h=>h, fun h=>h⟩
 |[s]=>⟨fun s h=>h, fun h=>h⟩
 |s::a::r=>by
  have ih:=trimR_sub (a::r)
  unfold trimR
  split
  ·exact ⟨fun x hx=>.tail _ (ih.1 x hx), fun _=>ih.2 (by simp)⟩
  ·exact ⟨fun x hx=>hx, fun h=>h⟩
theorem okL1_all:∀ {l:List Stp}, Zlv l=true↔okA l
 |[]=>⟨fun _ x hx=>(by cases hx), fun _=>rfl⟩
 |s::r=>by
  rw [Zlv, Bool.and_eq_true, okL1_all]
  constructor
  ·rintro ⟨h1, h2⟩ x hx
   rcases List.mem_cons.1 hx with rfl|hx
   ·exact h1
   ·exact h2 x hx
  ·exact fun h=>⟨h s (.head _), fun x hx=>h x (.tail _ hx)⟩
theorem okL_all {l:List Stp}:okL l=true↔l≠[]∧okA l:=by
 unfold okL
 rw [Bool.and_eq_true, okL1_all]
 cases l<;>simp
theorem orId_ok {l:List Stp} (h:okA l):okL (orId l)=true:=by
 unfold orId
 cases l with
 |nil=>rw [okL_all];exact ⟨by simp, fun x hx=>by simp at hx;subst hx;exact ok_id⟩
 |cons a r=>rw [okL_all];exact ⟨by simp, h⟩
theorem trimS_ok {l:List Stp} (h:okL l=true):okL (trimS l)=true:=by
 rw [okL_all] at h ⊢
 have:=trimR_sub l.reverse
 refine ⟨fun e=>this.2 (by simpa using h.1) (by simpa [trimS] using e), fun x hx=>h.2 x ?_⟩
 simp only [trimS, List.mem_reverse] at hx
 simpa using this.1 x hx
mutual
theorem rwS_ok:∀s:Stp, okS s=true→okS (rwS s)=true
 |.mk op nm nu pr va subs, h=>by
  rw [rwS]
  rw [okS, Bool.and_eq_true] at h ⊢
  have:=rwLL_ok op 0 subs h.2
  rw [this.2]
  exact ⟨h.1, this.1⟩
theorem rwA_ok:∀(l acc:List Stp), Zlv l=true→okA acc→okA (rwA l acc)
 |[], acc, h, ha=>by rw [rwA];exact ha
 |s::r, acc, h, ha=>by
  rw [Zlv, Bool.and_eq_true] at h
  rw [rwA]
  exact rwA_ok r _ h.2 (putR_ok acc _ ha (rwS_ok s h.1))
theorem rwLL_ok:∀(op:Int) (k:Nat) (ls:List (List Stp)), Ze7 ls=true→Ze7 (Zbb op k ls)=true∧(Zbb op k ls).length=ls.length
 |op, k, [], h=>by rw [Zbb];exact ⟨rfl, rfl⟩
 |op, k, l::r, h=>by
  rw [Ze7, Bool.and_eq_true, Bool.and_eq_true] at h
  obtain ⟨⟨h1, h2⟩, h3⟩:=h
  have ih:=rwLL_ok op (k+1) r h3
  have h4:okL (orId (rwA l []).reverse)=true:=orId_ok fun x hx=>rwA_ok l [] h2 (fun x hx=>by cases hx) x (by simpa using hx)
  have h5:=trimS_ok h4
  unfold okL at h4 h5
  rw [Zbb, Ze7, List.length_cons, List.length_cons, ih.2]
  refine ⟨?_, rfl⟩
  rw [ih.1, Bool.and_true]
  split
  ·exact h5
  ·exact h4
end
end Go.Proofs.YtnedeokclnbcpaaGreatDoor
namespace Go.Proofs.YtnedeokclnbcpaaGreatDoor
open Go Go.AM Go.RowKit
open Classical in
noncomputable def pairS (a b:Stp):Option Stp:=
 if a.op=24∧b.op=24 then some b
 else if a.op=26∧b.op=26 then some (limS (min2 (a.nums.headD 0) (b.nums.headD 0)))
 else if a.op=27∧b.op=27∧a.nums.headD 0≤9007199254740992-b.nums.headD 0 then some (skS (a.nums.headD 0+b.nums.headD 0))
 else if Zbc a.op=true∧(Zbc b.op=true∨b.op=35) then some b
 else if Zic a&&eqSB a b then some a
 else none
theorem ded_of {x:Stp} (hx:okS x=true) (h:x.op=24):x=Zj 24 []:=by
 obtain ⟨op, names, nums, preds, vals, subs⟩:=x
 obtain rfl:op=24:=h
 obtain ⟨h1, _, _⟩:=Zcb hx
 obtain ⟨a1, a2, a3, a4, a5⟩:=Z62 (op:=24) rfl h1
 rw [len0 a1, len0 a2, len0 a3, len0 a4, len0 a5]
 rfl
theorem ord_iff {o:Int}:Zbc o=true↔o=44∨o=45:=by simp [Zbc]
theorem filt_not {a:Stp} (h:a.op=24∨a.op=26∨a.op=27∨a.op=44∨a.op=45):Zic a=false:=by
 unfold Zic
 rcases h with h|h|h|h|h<;>simp [h]
theorem pair_join {a b:Stp} (ha:okS a=true) (hb:okS b=true):pairS a b=Zfg a b:=by
 unfold pairS Zfg
 by_cases ho:Zbc a.op=true
 ·have ho':=ord_iff.1 ho
  have hf:Zic a=false:=filt_not (by rcases ho' with h|h<;>simp [h])
  rw [if_neg (by rcases ho' with h|h<;>simp [h]), if_neg (by rcases ho' with h|h<;>simp [h]), if_neg (by rcases ho' with h|h<;>simp [h]), if_pos ho, hf]
  simp [ho]
 ·rw [if_neg ho]
  have hq:¬(Zbc a.op=true∧(Zbc b.op=true∨b.op=35)):=fun h=>ho h.1
  by_cases he:a.op=b.op
  ·rw [if_neg (show ¬(a.op≠b.op) from fun h=>h he), ←he]
   by_cases h24:a.op=24
   ·rw [if_pos ⟨h24, h24⟩, if_pos h24, ded_of ha h24, ded_of hb (he ▸ h24)]
   ·rw [if_neg (fun h=>h24 h.1), if_neg h24]
    by_cases h26:a.op=26
    ·rw [if_pos ⟨h26, h26⟩, if_pos h26]
    ·rw [if_neg (fun h=>h26 h.1), if_neg h26]
     by_cases h27:a.op=27
     ·rw [if_pos h27]
      by_cases hle:a.nums.headD 0+b.nums.headD 0≤9007199254740992
      ·rw [if_pos ⟨h27, h27, by omega⟩, if_pos hle]
      ·rw [if_neg (fun h=>hle (by have:=h.2.2;omega)), if_neg hle, if_neg (fun h=>ho h.1), filt_not (by simp [h27])]
       simp
     ·rw [if_neg (fun h=>h27 h.1), if_neg h27, if_neg (fun h=>ho h.1)]
  ·have hne:eqSB a b=false:=by
    cases hq2:eqSB a b with
    |false=>rfl
    |true=>
     have hab:a=b:=by simpa [eqSB] using hq2
     exact absurd (by rw [hab]) he
   rw [if_pos he, if_neg (fun h=>he (h.1.trans h.2.symm)), if_neg (fun h=>he (h.1.trans h.2.symm)), if_neg (fun h=>he (h.1.trans h.2.1.symm)), if_neg hq, hne]
   simp
def OwnL (n:Nat) (st:St) (v:PV) (L:List Stp):Prop:=(v=.nilSl∧L=[])∨∃t g es, v=.osl t g 0 L.length false∧st.get t=some (.row g 6 es true)∧t<st.next∧L.length≤es.length∧∀(j:Nat) (s:Stp) (cs:List PV), L[j]?=some s→es[j]?=some cs→SC n s cs
theorem OwnL.nil (n:Nat) (st:St):OwnL n st .nilSl []:=.inl ⟨rfl, rfl⟩
theorem OwnL.len {n:Nat} {st:St} {v:PV} {L:List Stp} (h:OwnL n st v L):lenOf v=some L.length∧Zco v=false:=by
 rcases h with ⟨rfl, rfl⟩|⟨t, g, es, rfl, _⟩
 ·exact ⟨rfl, rfl⟩
 ·exact ⟨rfl, rfl⟩
theorem OwnL.one {n:Nat} {st:St} {v:PV} {L:List Stp} (h:OwnL n st v L):PV.one v=true:=by
 rcases h with ⟨rfl, rfl⟩|⟨t, g, es, rfl, _⟩<;>rfl
theorem OwnL.keep {n:Nat} {st st':St} {v:PV} {L:List Stp} (h:OwnL n st v L) (hn:st.next≤st'.next) (hk:∀u, Z0g v=some u→st'.get u=st.get u):OwnL n st' v L:=by
 rcases h with ⟨rfl, rfl⟩|⟨t, g, es, rfl, h1, h2, h3, h4⟩
 ·exact .inl ⟨rfl, rfl⟩
 ·exact .inr ⟨t, g, es, rfl, by rw [hk t rfl];exact h1, by omega, h3, h4⟩
theorem OwnL.tok {n:Nat} {st:St} {v:PV} {L:List Stp} (h:OwnL n st v L) {u:Nat} (hu:Z0g v=some u):u<st.next∧∃g es, st.get u=some (.row g 6 es true):=by
 rcases h with ⟨rfl, rfl⟩|⟨t, g, es, rfl, h1, h2, h3, h4⟩
 ·cases hu
 ·injection hu with hu
  subst hu
  exact ⟨h2, g, es, h1⟩
theorem OwnL.at {n:Nat} {st:St} {v:PV} {L:List Stp} (h:OwnL n st v L) {j:Nat} {s:Stp} (hs:L[j]?=some s):∃p cs, indexS? st.get 6 (j:Int) v=some p∧loadAt st.get 6 true p=some (.agg cs)∧SC n s cs:=by
 have hj:=(List.getElem?_eq_some_iff.1 hs).1
 rcases h with ⟨rfl, rfl⟩|⟨t, g, es, rfl, h1, h2, h3, h4⟩
 ·simp at hs
 ·have he:es[j]?=some es[j]:=List.getElem?_eq_getElem (by omega)
  have hc:=h4 j s _ hs he
  have h6:=hc.len6
  refine ⟨.rptr t g j 0, es[j], ?_, ?_, hc⟩
  ·simp only [indexS?]
   rw [if_pos ⟨by omega, by omega⟩]
   simp only [h1, and_self, if_true, Int.toNat_natCast, Nat.zero_add]
  ·simp only [loadAt, behind, h1, if_true, he, Option.map_some, Option.bind_some, slice?]
   rw [if_pos (by omega)]
   simp [List.take_of_length_le (Nat.le_of_eq h6)]
theorem OwnL.take {n:Nat} {st:St} {v:PV} {L:List Stp} (h:OwnL n st v L) {m:Nat} (hm:m≤L.length):∃v', sliceSl? st.get 6 none (some (.int .i64 (m:Int))) none v=some v'∧OwnL n st v' (L.take m)∧Z0g v'=Z0g v:=by
 rcases h with ⟨rfl, rfl⟩|⟨t, g, es, rfl, h1, h2, h3, h4⟩
 ·have:m=0:=by simpa using hm
  subst this
  exact ⟨.nilSl, rfl, .inl ⟨rfl, by simp⟩, rfl⟩
 ·refine ⟨.osl t g 0 m false, ?_, .inr ⟨t, g, es, by simp [Nat.min_eq_left hm], h1, h2, by simp;omega, fun j s cs hj he=>?_⟩, rfl⟩
  ·simp only [sliceSl?, lenOf, Z5p?, Option.bind_some, h1]
   simp [hm]
  ·rw [List.getElem?_take] at hj
   split at hj
   ·exact h4 j s cs hj he
   ·cases hj
theorem OwnL.app {n:Nat} {st:St} {v:PV} {L:List Stp} (h:OwnL n st v L) {s:Stp} {cs:List PV} (hs:SC n s cs) {bytes:Nat} (hb:(L.length+1) * bytes≤Z05):∃v' st', Z0n st 6 bytes v [cs]=some (v', st')∧OwnL n st' v' (L++[s])∧Grow st v st' v':=by
 rcases h with ⟨rfl, rfl⟩|⟨t, g, es, rfl, h1, h2, h3, h4⟩
 ·refine ⟨.osl st.next 0 0 1 false, st.new (.row 0 6 [cs] true), ?_, .inr ⟨st.next, 0, [cs], rfl, St.get_new, by simp [St.new], by simp, fun j x c hj he=>?_⟩, rfl, by simp [St.new], .inr ⟨st.next, rfl, Nat.le_refl _⟩, fun u hu _=>St.get_new_old hu⟩
  ·exact Zax (by simp) (by simpa using hb)
  ·cases j with
   |zero=>simp at hj he;subst hj he;exact hs
   |succ j=>simp at hj
 ·refine ⟨.osl t (g+1) 0 (L.length+1) false, st.put t (.row (g+1) 6 (es.take L.length++[cs]) true), ?_, .inr ⟨t, g+1, es.take L.length++[cs], by simp, St.get_put, by simpa [St.put] using h2, by simp [h3], fun j x c hj he=>?_⟩, rfl, Nat.le_refl _, .inl rfl, fun u hu hne=>St.get_put_old (fun e=>hne (by rw [←e];rfl))⟩
  ·unfold Z0n
   rw [if_neg (by simp)]
   simp only [h1]
   rw [if_pos ⟨trivial, trivial, by omega, by simpa using hb⟩]
   simp
  ·rcases Nat.lt_or_ge j L.length with hlt|hge
   ·rw [List.getElem?_append_left hlt] at hj
    rw [List.getElem?_append_left (by simp;omega), List.getElem?_take, if_pos hlt] at he
    exact h4 j x c hj he
   ·rw [List.getElem?_append_right hge] at hj
    rw [List.getElem?_append_right (by simp;omega)] at he
    have hl:(es.take L.length).length=L.length:=by simp [h3]
    rw [hl] at he
    cases hz:j-L.length with
    |zero=>rw [hz] at hj he;simp at hj he;subst hj he;exact hs
    |succ k=>rw [hz] at hj;simp at hj
theorem OwnL.plain {n:Nat} {st:St} {v:PV} {L:List Stp} (h:OwnL n st v L) (hl:L.length≤140737488355328):(v=.nilSl∧L=[])∨∃t g es q, Z0g v=some t∧st.get t=some (.row g 6 es true)∧SL n q L∧PV.one q=true∧∀S', st.put t (.row g 6 es false)=S'→Zq9 S' v q:=by
 rcases h with ⟨rfl, rfl⟩|⟨t, g, es, rfl, h1, h2, h3, h4⟩
 ·exact .inl ⟨rfl, rfl⟩
 ·refine .inr ⟨t, g, es, .sl (es.take L.length) false, rfl, h1, .inr ⟨_, false, rfl, hl, by simp [h3], fun j s cs hj he=>?_⟩, rfl, ?_⟩
  ·rw [List.getElem?_take] at he
   split at he
   ·exact h4 j s cs hj he
   ·cases he
  ·rintro S' rfl
   refine seen_osl St.get_put h3 fun cs hcs c hc=>?_
   obtain ⟨j, hj⟩:=List.getElem?_of_mem hcs
   rw [List.getElem?_take] at hj
   split at hj
   ·rename_i hlt
    exact (h4 j L[j] cs (List.getElem?_eq_getElem hlt) hj).pl c hc
   ·cases hj
theorem OwnL.view {n:Nat} {st:St} {v:PV} {L:List Stp} (h:OwnL n st v L) (hl:L.length≤140737488355328):∃q, View true st.get v q∧SL n q L:=by
 rcases h with ⟨rfl, rfl⟩|⟨t, g, es, rfl, h1, h2, h3, h4⟩
 ·exact ⟨.nilSl, .nilSl, .inl ⟨rfl, rfl⟩⟩
 ·have hpl:∀cs∈es.take L.length, ∀c∈cs, Pl c:=fun cs hcs c hc=>by
   obtain ⟨j, hj⟩:=List.getElem?_of_mem hcs
   rw [List.getElem?_take] at hj
   split at hj
   ·rename_i hlt
    exact (h4 j L[j] cs (List.getElem?_eq_getElem hlt) hj).pl c hc
   ·cases hj
  refine ⟨.sl (es.take L.length) false, .osl t g 0 L.length false 6 es true _ h1 (.inl rfl) (by omega) (by simp) (fun j cs ds e1 e2=>?_) (fun j cs ds i c d e1 e2 e3 e4=>?_), .inr ⟨_, false, rfl, hl, by simp [h3], fun j s cs hj he=>?_⟩⟩
  ·rw [List.drop_zero, e2] at e1
   injection e1 with e1
   rw [e1]
  ·rw [List.drop_zero, e2] at e1
   injection e1 with e1
   subst e1
   rw [e3] at e4
   injection e4 with e4
   subst e4
   exact (hpl ds (List.mem_of_getElem? e2) c (List.mem_of_getElem? e3)).view
  ·rw [List.getElem?_take] at he
   split at he
   ·exact h4 j s cs hj he
   ·cases he
def OSubs (R:St→PV→List Stp→List Nat→Prop) (st:St) (pe:PV) (subs:List (List Stp)) (F:List Nat):Prop:=
 ∃(es:List (List PV)) (Fs:List (List Nat)), AccT 1 st pe es∧es.length=subs.length∧Fs.length=subs.length∧F=(Z0g pe).toList++Fs.flatten∧∀(k:Nat) (l:List Stp) (cs:List PV) (G:List Nat), subs[k]?=some l→es[k]?=some cs→Fs[k]?=some G→∃q, cs=[q]∧R st q l G
def OS (R:St→PV→List Stp→List Nat→Prop) (st:St) (cs:List PV) (s:Stp) (F:List Nat):Prop:=
 Zn s.op∧∃pa pb pc pd pe, cs=[.int .i64 s.op, pa, pb, pc, pd, pe]∧LR NmC pa s.names∧LR NuC pb s.nums∧LR PrC pc s.preds∧LR VC pd s.vals∧OSubs R st pe s.subs F
def OT:Nat→St→PV→List Stp→List Nat→Prop
 |0, st, p, l, F=>p=.nilSl∧l=[]∧F=[]
 |n+1, st, p, l, F=>∃(es:List (List PV)) (Fs:List (List Nat)), AccT 6 st p es∧es.length=l.length∧Fs.length=l.length∧F=(Z0g p).toList++Fs.flatten∧∀(j:Nat) (s:Stp) (cs:List PV) (G:List Nat), l[j]?=some s→es[j]?=some cs→Fs[j]?=some G→OS (OT n) st cs s G
theorem Z6n {Fs:List (List Nat)} {j:Nat} {G:List Nat} (h:Fs[j]?=some G) {u:Nat} (hu:u∈G):u∈Fs.flatten:=List.mem_flatten.2 ⟨G, List.mem_of_getElem? h, hu⟩
theorem Zkg {sz:Nat} {st st':St} {v:PV} {es:List (List PV)} (h:AccT sz st v es) (hn:st.next≤st'.next) (hk:∀u, Z0g v=some u→st'.get u=st.get u):AccT sz st' v es:=by
 rcases h with ⟨rfl, h⟩|⟨t, g, rfl, h1, h2⟩
 ·exact .inl ⟨rfl, h⟩
 ·exact .inr ⟨t, g, rfl, by rw [hk t rfl];exact h1, by omega⟩
theorem OSubs.keep {R:St→PV→List Stp→List Nat→Prop} {st st':St} (hR:∀p l F, R st p l F→(∀u∈F, st'.get u=st.get u)→R st' p l F) {pe:PV} {subs:List (List Stp)} {F:List Nat} (h:OSubs R st pe subs F) (hn:st.next≤st'.next) (hk:∀u∈F, st'.get u=st.get u):OSubs R st' pe subs F:=by
 obtain ⟨es, Fs, h1, h2, h3, rfl, h5⟩:=h
 refine ⟨es, Fs, Zkg h1 hn (fun u hu=>hk u (by simp [hu])), h2, h3, rfl, fun k l cs G a b c=>?_⟩
 obtain ⟨q, e, hq⟩:=h5 k l cs G a b c
 exact ⟨q, e, hR q l G hq fun u hu=>hk u (List.mem_append_right _ (Z6n c hu))⟩
theorem OS.keep {R:St→PV→List Stp→List Nat→Prop} {st st':St} (hR:∀p l F, R st p l F→(∀u∈F, st'.get u=st.get u)→R st' p l F) {cs:List PV} {s:Stp} {F:List Nat} (h:OS R st cs s F) (hn:st.next≤st'.next) (hk:∀u∈F, st'.get u=st.get u):OS R st' cs s F:=by
 obtain ⟨h0, pa, pb, pc, pd, pe, e, h1, h2, h3, h4, h5⟩:=h
 exact ⟨h0, pa, pb, pc, pd, pe, e, h1, h2, h3, h4, h5.keep hR hn hk⟩
theorem OT.keep:∀(n:Nat) {st st':St} {p:PV} {l:List Stp} {F:List Nat}, OT n st p l F→st.next≤st'.next→(∀u∈F, st'.get u=st.get u)→OT n st' p l F
 |0, st, st', p, l, F, h, hn, hk=>h
 |n+1, st, st', p, l, F, h, hn, hk=>by
  obtain ⟨es, Fs, h1, h2, h3, rfl, h5⟩:=h
  exact ⟨es, Fs, Zkg h1 hn (fun u hu=>hk u (by simp [hu])), h2, h3, rfl, fun j s cs G a b c=>(h5 j s cs G a b c).keep (fun p l F h hk=>OT.keep n h hn hk) hn fun u hu=>hk u (List.mem_append_right _ (Z6n c hu))⟩
def z6:List PV:=[.int .i64 0, .nilSl, .nilSl, .nilSl, .nilSl, .nilSl]
theorem z6_pl:∀c∈z6, Pl c:=by
 intro c hc
 simp only [z6, List.mem_cons, List.not_mem_nil, or_false] at hc
 rcases hc with rfl|rfl|rfl|rfl|rfl|rfl<;>first|exact .int _ _|exact .nilSl
def C6 (cs:List PV):Prop:=(∀c∈cs, Pl c)∧cs.length=6∧∀c∈cs, PV.one c=true
theorem c6_z:C6 z6:=⟨z6_pl, rfl, by simp [z6, PV.one]⟩
theorem SC.c6 {n:Nat} {s:Stp} {cs:List PV} (h:SC n s cs):C6 cs:=⟨h.pl, h.len6, h.one⟩
theorem run_idx2 (a b v:Int):T.R (.call Z5u [.sl [[.int .i64 a], [.int .i64 b]] true, .int .i64 v] (.int .i64 (if v=a then 0 else if v=b then 1 else -1))):=by
 by_cases h1:v=a
 ·rw [if_pos h1]
  refine Z7 rfl rfl ?_
  repeat' first|((with_reducible show V _ _ _ _ _ _);first|refine Z9x rfl (Zf ?_)|refine Z1 rfl ?_|refine Za rfl rfl ?_|refine Z6 rfl rfl ?_)|((with_reducible show VO _ _ _ _ _ _ _);first|refine Z3 (Z0f h1) rfl ?_|refine Z0 rfl ?_|refine Z2 ?_)
  rfl
 ·rw [if_neg h1]
  by_cases h2:v=b
  ·rw [if_pos h2]
   refine Z7 rfl rfl ?_
   repeat' first|((with_reducible show V _ _ _ _ _ _);first|refine Z9x rfl (Zf ?_)|refine Z1 rfl ?_|refine Za rfl rfl ?_|refine Z9 rfl rfl ?_|refine Z6 rfl rfl ?_)|((with_reducible show VO _ _ _ _ _ _ _);first|refine Z3 (Zb h1) rfl ?_|refine Z3 (Z0f h2) rfl ?_|refine Z0 rfl ?_|refine Z2 ?_)
   rfl
  ·rw [if_neg h2]
   refine Z7 rfl rfl ?_
   repeat' first|((with_reducible show V _ _ _ _ _ _);first|refine Z9x rfl (Zf ?_)|refine Z1 rfl ?_|refine Za rfl rfl ?_|refine Z9 rfl rfl ?_|refine Z6 rfl rfl ?_)|((with_reducible show VO _ _ _ _ _ _ _);first|refine Z3 (Zb h1) rfl ?_|refine Z3 (Zb h2) rfl ?_|refine Z0 rfl ?_|refine Z2 ?_)
   rfl
theorem run_idx1 (a v:Int):T.R (.call Z5u [.sl [[.int .i64 a]] true, .int .i64 v] (.int .i64 (if v=a then 0 else -1))):=by
 by_cases h1:v=a
 ·rw [if_pos h1]
  refine Z7 rfl rfl ?_
  repeat' first|((with_reducible show V _ _ _ _ _ _);first|refine Z9x rfl (Zf ?_)|refine Z1 rfl ?_|refine Za rfl rfl ?_|refine Z6 rfl rfl ?_)|((with_reducible show VO _ _ _ _ _ _ _);first|refine Z3 (Z0f h1) rfl ?_|refine Z0 rfl ?_|refine Z2 ?_)
  rfl
 ·rw [if_neg h1]
  refine Z7 rfl rfl ?_
  repeat' first|((with_reducible show V _ _ _ _ _ _);first|refine Z9x rfl (Zf ?_)|refine Z1 rfl ?_|refine Za rfl rfl ?_|refine Z9 rfl rfl ?_|refine Z6 rfl rfl ?_)|((with_reducible show VO _ _ _ _ _ _ _);first|refine Z3 (Zb h1) rfl ?_|refine Z0 rfl ?_|refine Z2 ?_)
  rfl
def opsP (ops:List Int):PV:=.sl (ops.map fun o=>[.int .i64 o]) true
theorem run_con2 (a b v:Int):T.R (.call Z1x [opsP [a, b], .int .i64 v] (.bool (decide (v=a)||decide (v=b)))):=by
 have h:=run_idx2 a b v
 have pl:Pl (.sl [[.int .i64 a], [.int .i64 b]] true):=.sl _ _ (by simp;exact ⟨.int _ _, .int _ _⟩)
 by_cases h1:v=a
 ·rw [if_pos h1] at h
  rw [decide_eq_true h1]
  refine Z7 rfl rfl ?_
  repeat' first|refine Z1 rfl ?_|refine Z6 rfl rfl ?_|((with_reducible show VO _ _ _ _ _ _ _);first|refine Z5 rfl rfl h ?_|refine Z0 rfl ?_|refine Z2 ?_)
  rfl
 ·rw [if_neg h1] at h
  rw [decide_eq_false h1]
  by_cases h2:v=b
  ·rw [if_pos h2] at h
   rw [decide_eq_true h2]
   refine Z7 rfl rfl ?_
   repeat' first|refine Z1 rfl ?_|refine Z6 rfl rfl ?_|((with_reducible show VO _ _ _ _ _ _ _);first|refine Z5 rfl rfl h ?_|refine Z0 rfl ?_|refine Z2 ?_)
   rfl
  ·rw [if_neg h2] at h
   rw [decide_eq_false h2]
   refine Z7 rfl rfl ?_
   repeat' first|refine Z1 rfl ?_|refine Z6 rfl rfl ?_|((with_reducible show VO _ _ _ _ _ _ _);first|refine Z5 rfl rfl h ?_|refine Z0 rfl ?_|refine Z2 ?_)
   rfl
theorem run_con1 (a v:Int):T.R (.call Z1x [opsP [a], .int .i64 v] (.bool (decide (v=a)))):=by
 have h:=run_idx1 a v
 have pl:Pl (.sl [[.int .i64 a]] true):=.sl _ _ (by simp;exact .int _ _)
 by_cases h1:v=a
 ·rw [if_pos h1] at h
  rw [decide_eq_true h1]
  refine Z7 rfl rfl ?_
  repeat' first|refine Z1 rfl ?_|refine Z6 rfl rfl ?_|((with_reducible show VO _ _ _ _ _ _ _);first|refine Z5 rfl rfl h ?_|refine Z0 rfl ?_|refine Z2 ?_)
  rfl
 ·rw [if_neg h1] at h
  rw [decide_eq_false h1]
  refine Z7 rfl rfl ?_
  repeat' first|refine Z1 rfl ?_|refine Z6 rfl rfl ?_|((with_reducible show VO _ _ _ _ _ _ _);first|refine Z5 rfl rfl h ?_|refine Z0 rfl ?_|refine Z2 ?_)
  rfl
theorem run_only {n:Nat} {l:List Stp} {p:PV} (hp:SL n p l) (ops:List Int) (P:Int→Bool) (plo:Pl (opsP ops)) (hc:∀v, T.R (.call Z1x [opsP ops, .int .i64 v] (.bool (P v)))):
  ∃cs, T.R (.call Z2x [p, opsP ops] (.tuple [.agg cs, .bool (Z1r l P).isSome]))∧(∀x, Z1r l P=some x→SC n x cs)∧C6 cs:=by
 obtain ⟨e1, e2, e3⟩:=hp.len
 have plp:=SL.pl hp
 have none6:∀(h:(l.length:Int)≠1) (h2:Z1r l P=none), ∃cs, T.R (.call Z2x [p, opsP ops] (.tuple [.agg cs, .bool (Z1r l P).isSome]))∧(∀x, Z1r l P=some x→SC n x cs)∧C6 cs:=by
  intro h h2
  rw [h2]
  refine ⟨z6, ?_, fun x hx=>(by cases hx), c6_z⟩
  refine Z7 rfl rfl ?_
  repeat' first|((with_reducible show V _ _ _ _ _ _);first|refine Z1 rfl ?_|refine Z9 rfl rfl ?_|refine Z6 rfl rfl ?_)|((with_reducible show VO _ _ _ _ _ _ _);first|refine Z4 rfl e1 e2 ?_|refine Z3 (Zb h) rfl ?_|refine Z0 rfl ?_|refine Zc rfl ?_|refine Z2 ?_|refine Zk rfl rfl ?_)
  rfl
 match l, hp, e1, none6 with
 |[], hp, e1, none6=>exact none6 (by simp) rfl
 |[s], hp, e1, none6=>
  obtain ⟨cs, hat, hs⟩:=SL.at hp (j:=0) (s:=s) rfl
  have h6:=hs.len6
  have hpl:=hs.pl
  have hone:=hs.one
  have hcc:=hc s.op
  have d1:PV.bool (decide ((([s]:List Stp).length:Int)=1))=PV.bool true:=Z0f (by simp)
  have hs0:=hs
  cases n with
  |zero=>exact hs.elim
  |succ m=>
   obtain ⟨op, names, nums, preds, vals, subs⟩:=s
   obtain ⟨ho, pa, pb, pc, pd, pe, rfl, _⟩:=hs
   simp only [Stp.op] at hcc
   cases hP:P op with
   |false=>
    have h2:Z1r [Stp.mk op names nums preds vals subs] P=none:=by simp [Z1r, Stp.op, hP]
    rw [hP] at hcc
    rw [h2]
    refine ⟨z6, ?_, fun x hx=>(by cases hx), c6_z⟩
    refine Z7 rfl rfl ?_
    repeat' first|((with_reducible show V _ _ _ _ _ _);first|refine Z1 rfl ?_|refine Z9 rfl rfl ?_|refine Z6 rfl rfl ?_)|((with_reducible show VO _ _ _ _ _ _ _);first|refine Z4 rfl e1 e2 ?_|refine Z3 d1 rfl ?_|refine Zg rfl rfl hat ?_|refine Z5 rfl rfl hcc ?_|refine Z0 rfl ?_|refine Zc rfl ?_|refine Z2 ?_|refine Zh rfl ?_)
    rfl
   |true=>
    have h2:Z1r [Stp.mk op names nums preds vals subs] P=some (Stp.mk op names nums preds vals subs):=by simp [Z1r, Stp.op, hP]
    rw [hP] at hcc
    rw [h2]
    have pa1:Pl pa:=hpl _ (by simp)
    have pb1:Pl pb:=hpl _ (by simp)
    have pc1:Pl pc:=hpl _ (by simp)
    have pd1:Pl pd:=hpl _ (by simp)
    have pe1:Pl pe:=hpl _ (by simp)
    refine ⟨_, ?_, fun x hx=>(by injection hx with hx;subst hx;exact hs0), hs0.c6⟩
    refine Z7 rfl rfl ?_
    repeat' first|((with_reducible show V _ _ _ _ _ _);first|refine Z1 rfl ?_|refine Za rfl rfl ?_|refine Z6 rfl rfl ?_)|((with_reducible show VO _ _ _ _ _ _ _);first|refine Z4 rfl e1 e2 ?_|refine Z3 d1 rfl ?_|refine Zg rfl rfl hat ?_|refine Z07 rfl h6 ?_|refine Z5 rfl rfl hcc ?_|refine Z03 rfl rfl hone rfl rfl rfl rfl ?_|refine Z0 rfl ?_|refine Zc rfl ?_|refine Z2 ?_|refine Zh rfl ?_)
    rfl
 |s::s'::r, hp, e1, none6=>exact none6 (by simp;omega) rfl
end Go.Proofs.YtnedeokclnbcpaaGreatDoor
