/- rewrite.asked, rewrite.Trim. · Copies of lists of names, numbers and values. · value.Clone, parse.cloneValues. · parse.cloneValues. -/
import Derived.Test.YtnedeokclnbcpaaGreatDoorRwEToRwH
set_option linter.unusedVariables false
set_option linter.unusedSimpArgs false
namespace Go.Proofs.YtnedeokclnbcpaaGreatDoor
open Go Go.AM Go.RowKit
theorem run_asked (op:Int) (k:Nat):T.R (.call Zol [.int .i64 op, .int .i64 (k:Int)] (.bool (askB op k))):=by
 unfold askB
 by_cases o20:op=20
 ·subst o20
  refine Z7 rfl rfl ?_
  repeat' first|((with_reducible show V _ _ _ _ _ _);first|refine Z1 rfl ?_|refine Za rfl rfl ?_|refine Z6 rfl rfl ?_)|refine Z0 rfl ?_|refine Z2 ?_
  rfl
 by_cases o21:op=21
 ·subst o21
  refine Z7 rfl rfl ?_
  repeat' first|((with_reducible show V _ _ _ _ _ _);first|refine Z1 rfl ?_|refine Za rfl rfl ?_|refine Z9 rfl rfl ?_|refine Z6 rfl rfl ?_)|refine Z0 rfl ?_|refine Z2 ?_
  rfl
 by_cases o22:op=22
 ·subst o22
  refine Z7 rfl rfl ?_
  repeat' first|((with_reducible show V _ _ _ _ _ _);first|refine Z1 rfl ?_|refine Za rfl rfl ?_|refine Z9 rfl rfl ?_|refine Z6 rfl rfl ?_)|refine Z0 rfl ?_|refine Z2 ?_
  rfl
 by_cases o23:op=23
 ·subst o23
  refine Z7 rfl rfl ?_
  repeat' first|((with_reducible show V _ _ _ _ _ _);first|refine Z1 rfl ?_|refine Za rfl rfl ?_|refine Z9 rfl rfl ?_|refine Z6 rfl rfl ?_)|refine Z0 rfl ?_|refine Z2 ?_
  rfl
 have hk:decide ((k:Int)=0)=decide (k=0):=by
  by_cases h:k=0
  ·subst h;rfl
  ·rw [decide_eq_false h, decide_eq_false (by omega)]
 rw [decide_eq_false o20, decide_eq_false o21, decide_eq_false o22, decide_eq_false o23, ←hk]
 by_cases o53:op=53
 ·subst o53
  refine Z7 rfl rfl ?_
  repeat' first|((with_reducible show V _ _ _ _ _ _);first|refine Z1 rfl ?_|refine Za rfl rfl ?_|refine Z9 rfl rfl ?_|refine Z6 rfl rfl ?_)|refine Z0 rfl ?_|refine Z2 ?_
  rfl
 rw [decide_eq_false o53]
 by_cases o55:op=55
 ·subst o55
  refine Z7 rfl rfl ?_
  repeat' first|((with_reducible show V _ _ _ _ _ _);first|refine Z1 rfl ?_|refine Za rfl rfl ?_|refine Z9 rfl rfl ?_|refine Z6 rfl rfl ?_)|refine Z0 rfl ?_|refine Z2 ?_
  rfl
 ·rw [decide_eq_false o55]
  refine Z7 rfl rfl ?_
  repeat' first|((with_reducible show V _ _ _ _ _ _);first|refine Z1 rfl ?_|refine Z9 rfl rfl ?_|refine Z6 rfl rfl ?_)|((with_reducible show VO _ _ _ _ _ _ _);first|refine Z3 (Zb o20) rfl ?_|refine Z3 (Zb o21) rfl ?_|refine Z3 (Zb o22) rfl ?_|refine Z3 (Zb o23) rfl ?_|refine Z3 (Zb o53) rfl ?_|refine Z3 (Zb o55) rfl ?_|refine Z0 rfl ?_|refine Z2 ?_)
  rfl
theorem sl_take {n:Nat} {p:PV} {l:List Stp} (hp:SL n p l) {m:Nat} (hm:m≤l.length) (hne:l≠[]):∃q, (∀look:Nat→Option Tok, sliceSl? look 6 none (some (.int .i64 (m:Int))) none p=some q)∧SL n q (l.take m):=by
 rcases hp with ⟨rfl, rfl⟩|⟨xs, f, rfl, hb, hl, h⟩
 ·exact absurd rfl hne
 ·have ha:Z14 6 xs=true:=by
   unfold Z14
   rw [List.all_eq_true]
   intro cs hcs
   obtain ⟨j, hj⟩:=List.getElem?_of_mem hcs
   have hlt:j<l.length:=by rw [←hl];exact (List.getElem?_eq_some_iff.1 hj).1
   simp [(h j l[j] cs (List.getElem?_eq_getElem hlt) hj).len6]
  refine ⟨_, fun look=>slice_hi ha (by omega) (by omega), .inr ⟨_, _, rfl, by simp;omega, by simp [hl], fun j s cs h1 h2=>?_⟩⟩
  rw [List.getElem?_take] at h1 h2
  split at h1
  ·rename_i hj
   rw [if_pos (by simpa using hj)] at h2
   exact h j s cs h1 h2
  ·cases h1
theorem Zqe {l:List Stp} {s:Stp} (h:l≠[]):trimS (l++[s])=if trB s then trimS l else l++[s]:=by
 unfold trimS
 rw [List.reverse_append, List.reverse_singleton, List.singleton_append]
 cases hr:l.reverse with
 |nil=>exact absurd (by simpa using hr) h
 |cons a r=>
  rw [trimR]
  split
  ·rfl
  ·rw [←hr];simp
theorem trimS_one (l:List Stp) (h:l.length≤1):trimS l=l:=by
 match l, h with
 |[], _=>rfl
 |[s], _=>rfl
set_option maxHeartbeats 8000000 in
theorem trim_loop {n:Nat}:∀(N:Nat) (l:List Stp) (p:PV), l.length≤N→SL n p l→
  V T (PE fun x e st'=>x=.exit 0∧∃q, e=Ze [(0, q)]∧SL n q (trimS l)) [.code (.loop Z6d)] .normal (Ze [(0, p)]) emptySt:=by
 have stop:∀(l:List Stp) (p:PV), l.length≤1→SL n p l→V T (PE fun x e st'=>x=.exit 0∧∃q, e=Ze [(0, q)]∧SL n q (trimS l)) [.code (.loop Z6d)] .normal (Ze [(0, p)]) emptySt:=by
  intro l p hl hp
  obtain ⟨e1, e2, _⟩:=hp.len
  have hlt:decide ((1:Int)<(l.length:Int))=false:=decide_eq_false (by omega)
  rw [trimS_one l hl]
  refine Zf ?_
  repeat' first|((with_reducible show V _ _ _ _ _ _);first|refine Z48 hlt rfl rfl ?_|refine Zr [(0, p)] rfl ⟨rfl, trivial⟩ ⟨rfl, p, rfl, hp⟩|refine Z1 rfl ?_)|((with_reducible show VO _ _ _ _ _ _ _);first|refine Z4 rfl e1 e2 ?_|refine Z0 rfl ?_|refine Z2 ?_)
 intro N
 induction N with
 |zero=>exact fun l p hl hp=>stop l p (by omega) hp
 |succ N ih=>
  intro l p hl hp
  by_cases hl1:l.length≤1
  ·exact stop l p hl1 hp
  rcases List.eq_nil_or_concat l with rfl|⟨l0, s, rfl⟩
  ·simp at hl1
  rw [List.concat_eq_append] at *
  have hne:l0≠[]:=by rintro rfl;simp at hl1
  obtain ⟨e1, e2, e3⟩:=hp.len
  have plp:=SL.pl hp
  have hll:(l0++[s]).length=l0.length+1:=by simp
  have hlt:decide ((1:Int)<((l0++[s]).length:Int))=true:=decide_eq_true (by omega)
  have w1:PV.int .i64 (IntKind.i64.wrap (((l0++[s]).length:Int)-1))=PV.int .i64 (l0.length:Int):=Z5e (by rw [Z01];omega)
  obtain ⟨cs, ay, hs⟩:=SL.at hp (j:=l0.length) (s:=s) (by simp)
  obtain ⟨q', hsl, hq'⟩:=sl_take hp (m:=l0.length) (by omega) (by simp)
  rw [List.take_left' rfl] at hq'
  have hi:=ih l0 q' (by omega) hq'
  have h6:=hs.len6
  have hone:=hs.one
  have hpl:=hs.pl
  have hio:=Zha hs.c6 hs.op0
  rw [Zqe hne]
  cases n with
  |zero=>exact hs.elim
  |succ m=>
  obtain ⟨op, names, nums, preds, vals, subs⟩:=s
  obtain ⟨ho, pa, pb, pc, pd, pe, rfl, h1, h2, h3, h4, h5⟩:=hs
  obtain ⟨g1, g2, g3⟩:=h2.len
  obtain ⟨px0, px1, px2, px3, px4, px5⟩:=pl6 hpl
  simp only [Stp.op] at hio
  have trE:trB (.mk op names nums preds vals subs)=(decide (op=24)||Zbc op||(decide (op=26)&&decide (nums.length=1)&&decide (0<nums.headD 0))):=rfl
  by_cases o26:op=26
  ·subst o26
   have hio':T.R (.call Zbs [.agg [.int .i64 26, pa, pb, pc, pd, pe]] (.bool false)):=hio
   by_cases hn1:nums.length=1
   ·obtain ⟨k, rfl⟩:=List.length_eq_one_iff.1 hn1
    obtain ⟨ck, ak, hk, rfl⟩:=h2.at (sz:=1) (fun _ _ h=>h.len1) (j:=0) (a:=k) rfl
    have d1:=Z0f (p:=(([k]:List Int).length:Int)=1) (by simp)
    by_cases hk0:0<k
    ·have tr:trB (.mk 26 names [k] preds vals subs)=true:=by rw [trE];simp [hk0]
     rw [tr, if_pos rfl]
     refine Zf ?_
     repeat' first|((with_reducible show V _ _ _ _ _ _);first|refine Z15 hlt rfl rfl ?_|refine V_reF rfl hi rfl ⟨rfl, trivial⟩ ⟨SL.pl hq', trivial⟩|refine Z1 rfl ?_|refine Z9 rfl rfl ?_)|((with_reducible show VO _ _ _ _ _ _ _);first|refine Z4 rfl e1 e2 ?_|refine Z3 w1 rfl ?_|refine Zg rfl rfl ay ?_|refine Z07 rfl h6 ?_|refine Z03 rfl rfl hone h6 rfl rfl rfl ?_|refine Zt rfl rfl h6 ?_|refine Z5 rfl rfl hio' ?_|refine Z4 rfl g1 g2 ?_|refine Z3 d1 rfl ?_|refine Zg rfl rfl ak ?_|refine Z3 (Z0f hk0) rfl ?_|refine Zlk q' rfl rfl rfl rfl (hsl _) ?_|refine Z0 rfl ?_|refine Zc rfl ?_|refine Z2 ?_|refine Zh rfl ?_)
    ·have tr:trB (.mk 26 names [k] preds vals subs)=false:=by rw [trE];simp [hk0, Zbc]
     rw [tr, if_neg (by decide)]
     refine Zf ?_
     repeat' first|((with_reducible show V _ _ _ _ _ _);first|refine Z15 hlt rfl rfl ?_|refine Zr [(0, p)] rfl ⟨rfl, trivial⟩ ⟨rfl, p, rfl, hp⟩|refine Z1 rfl ?_|refine Za rfl rfl ?_)|((with_reducible show VO _ _ _ _ _ _ _);first|refine Z4 rfl e1 e2 ?_|refine Z3 w1 rfl ?_|refine Zg rfl rfl ay ?_|refine Z07 rfl h6 ?_|refine Z03 rfl rfl hone h6 rfl rfl rfl ?_|refine Zt rfl rfl h6 ?_|refine Z5 rfl rfl hio' ?_|refine Z4 rfl g1 g2 ?_|refine Z3 d1 rfl ?_|refine Zg rfl rfl ak ?_|refine Z3 (Zb hk0) rfl ?_|refine Z0 rfl ?_|refine Zc rfl ?_|refine Z2 ?_|refine Zh rfl ?_)
   ·have tr:trB (.mk 26 names nums preds vals subs)=false:=by rw [trE];simp [hn1, Zbc]
    rw [tr, if_neg (by decide)]
    have d1:=Zb (p:=(nums.length:Int)=1) (by omega)
    refine Zf ?_
    repeat' first|((with_reducible show V _ _ _ _ _ _);first|refine Z15 hlt rfl rfl ?_|refine Zr [(0, p)] rfl ⟨rfl, trivial⟩ ⟨rfl, p, rfl, hp⟩|refine Z1 rfl ?_|refine Za rfl rfl ?_)|((with_reducible show VO _ _ _ _ _ _ _);first|refine Z4 rfl e1 e2 ?_|refine Z3 w1 rfl ?_|refine Zg rfl rfl ay ?_|refine Z07 rfl h6 ?_|refine Z03 rfl rfl hone h6 rfl rfl rfl ?_|refine Zt rfl rfl h6 ?_|refine Z5 rfl rfl hio' ?_|refine Z4 rfl g1 g2 ?_|refine Z3 d1 rfl ?_|refine Z0 rfl ?_|refine Zc rfl ?_|refine Z2 ?_|refine Zh rfl ?_|refine Zk rfl rfl ?_)
  by_cases o24:op=24
  ·subst o24
   have tr:trB (.mk 24 names nums preds vals subs)=true:=by rw [trE];simp
   rw [tr, if_pos rfl]
   refine Zf ?_
   repeat' first|((with_reducible show V _ _ _ _ _ _);first|refine Z15 hlt rfl rfl ?_|refine V_reF rfl hi rfl ⟨rfl, trivial⟩ ⟨SL.pl hq', trivial⟩|refine Z1 rfl ?_|refine Z9 rfl rfl ?_)|((with_reducible show VO _ _ _ _ _ _ _);first|refine Z4 rfl e1 e2 ?_|refine Z3 w1 rfl ?_|refine Zg rfl rfl ay ?_|refine Z07 rfl h6 ?_|refine Z03 rfl rfl hone h6 rfl rfl rfl ?_|refine Zlk q' rfl rfl rfl rfl (hsl _) ?_|refine Z0 rfl ?_|refine Zc rfl ?_|refine Z2 ?_|refine Zk rfl rfl ?_)
  ·by_cases oo:Zbc op=true
   ·have tr:trB (.mk op names nums preds vals subs)=true:=by rw [trE];simp [oo]
    rw [tr, if_pos rfl]
    rw [oo] at hio
    refine Zf ?_
    repeat' first|((with_reducible show V _ _ _ _ _ _);first|refine Z15 hlt rfl rfl ?_|refine V_reF rfl hi rfl ⟨rfl, trivial⟩ ⟨SL.pl hq', trivial⟩|refine Z1 rfl ?_|refine Z9 rfl rfl ?_)|((with_reducible show VO _ _ _ _ _ _ _);first|refine Z4 rfl e1 e2 ?_|refine Z3 w1 rfl ?_|refine Zg rfl rfl ay ?_|refine Z07 rfl h6 ?_|refine Z03 rfl rfl hone h6 rfl rfl rfl ?_|refine Zt rfl rfl h6 ?_|refine Z5 rfl rfl hio ?_|refine Z3 (Zb o26) rfl ?_|refine Z3 (Z0e o24) rfl ?_|refine Zlk q' rfl rfl rfl rfl (hsl _) ?_|refine Z0 rfl ?_|refine Zc rfl ?_|refine Z2 ?_|refine Zh rfl ?_|refine Zk rfl rfl ?_)
   ·have oo':Zbc op=false:=by simpa using oo
    have tr:trB (.mk op names nums preds vals subs)=false:=by rw [trE];simp [oo', o24, o26]
    rw [tr, if_neg (by decide)]
    rw [oo'] at hio
    refine Zf ?_
    repeat' first|((with_reducible show V _ _ _ _ _ _);first|refine Z15 hlt rfl rfl ?_|refine Zr [(0, p)] rfl ⟨rfl, trivial⟩ ⟨rfl, p, rfl, hp⟩|refine Z1 rfl ?_|refine Za rfl rfl ?_)|((with_reducible show VO _ _ _ _ _ _ _);first|refine Z4 rfl e1 e2 ?_|refine Z3 w1 rfl ?_|refine Zg rfl rfl ay ?_|refine Z07 rfl h6 ?_|refine Z03 rfl rfl hone h6 rfl rfl rfl ?_|refine Zt rfl rfl h6 ?_|refine Z5 rfl rfl hio ?_|refine Z3 (Zb o26) rfl ?_|refine Z3 (Z0e o24) rfl ?_|refine Z0 rfl ?_|refine Zc rfl ?_|refine Z2 ?_|refine Zh rfl ?_|refine Zk rfl rfl ?_)
theorem run_Trim {n:Nat} {l:List Stp} {p:PV} (hp:SL n p l):∃q, T.R (.call Zq4 [p] q)∧SL n q (trimS l):=by
 have hl:=trim_loop l.length l p (Nat.le_refl _) hp
 refine Z1z rfl rfl ?_
 repeat' first|refine Z08 rfl hl ⟨rfl, trivial⟩ ?_|refine Z1 rfl ?_|refine Z0 rfl ?_|refine Z2 ?_
 rintro x e st' ⟨rfl, q, rfl, hq⟩
 have plq:=SL.pl hq
 repeat' first|refine Z8u rfl rfl plq.view hq|refine Z1 rfl ?_|refine Z0 rfl ?_|refine Z2 ?_
def AccR {α:Type} (R:α→List PV→Prop) (sz:Nat) (st:St) (v:PV) (L:List α):Prop:=∃es, AccT sz st v es∧es.length=L.length∧∀(j:Nat) (a:α) (cs:List PV), L[j]?=some a→es[j]?=some cs→R a cs
section
variable {α:Type} {R:α→List PV→Prop} {sz:Nat} {st:St} {v:PV} {L:List α}
theorem AccR.nil:AccR R sz st .nilSl ([]:List α):=⟨[], .inl ⟨rfl, rfl⟩, rfl, fun j a cs h=>by simp at h⟩
theorem AccR.len (h:AccR R sz st v L):lenOf v=some L.length∧Zco v=false:=by
 obtain ⟨es, h1, h2, _⟩:=h
 rcases h1 with ⟨rfl, rfl⟩|⟨t, g, rfl, _⟩
 ·have:L=[]:=List.length_eq_zero_iff.1 (by simpa using h2.symm)
  subst this
  exact ⟨rfl, rfl⟩
 ·exact ⟨by simp [lenOf, h2], rfl⟩
theorem AccR.one (h:AccR R sz st v L):PV.one v=true:=by
 obtain ⟨es, h1, h2, _⟩:=h
 rcases h1 with ⟨rfl, rfl⟩|⟨t, g, rfl, _⟩<;>rfl
theorem AccR.app (h:AccR R sz st v L) {a:α} {cs:List PV} (ha:R a cs) {bytes:Nat} (hb:(L.length+1) * bytes≤Z05):∃v' st', Z0n st sz bytes v [cs]=some (v', st')∧AccR R sz st' v' (L++[a])∧Grow st v st' v':=by
 obtain ⟨es, h1, h2, h3⟩:=h
 obtain ⟨v', st', k1, k2, k3⟩:=h1.grow (bytes:=bytes) (src:=[cs]) (by simp) (by rw [h2];simpa using hb)
 refine ⟨v', st', k1, ⟨_, k2, by simp [h2], fun j b ds hj hd=>?_⟩, k3⟩
 rcases Nat.lt_or_ge j L.length with hlt|hge
 ·rw [List.getElem?_append_left hlt] at hj
  rw [List.getElem?_append_left (by omega)] at hd
  exact h3 j b ds hj hd
 ·rw [List.getElem?_append_right hge] at hj
  rw [List.getElem?_append_right (by omega), h2] at hd
  cases hz:j-L.length with
  |zero=>rw [hz] at hj hd;simp at hj hd;subst hj hd;exact ha
  |succ k=>rw [hz] at hj;simp at hj
theorem AccR.keep {st':St} (h:AccR R sz st v L) (hn:st.next≤st'.next) (hk:∀u, Z0g v=some u→st'.get u=st.get u):AccR R sz st' v L:=by
 obtain ⟨es, h1, h2, h3⟩:=h
 exact ⟨es, Zkg h1 hn hk, h2, h3⟩
theorem AccR.tok (h:AccR R sz st v L) {u:Nat} (hu:Z0g v=some u):u<st.next∧∃g es, st.get u=some (.row g sz es true):=by
 obtain ⟨es, h1, h2, h3⟩:=h
 rcases h1 with ⟨rfl, rfl⟩|⟨t, g, rfl, k1, k2⟩
 ·cases hu
 ·injection hu with hu
  subst hu
  exact ⟨k2, g, es, k1⟩
theorem AccR.view (h:AccR R sz st v L) (hpl:∀a cs, R a cs→∀c∈cs, Pl c) (hl:L.length≤140737488355328):∃q, View true st.get v q∧LR R q L:=by
 obtain ⟨es, h1, h2, h3⟩:=h
 rcases h1 with ⟨rfl, rfl⟩|⟨t, g, rfl, k1, k2⟩
 ·have:L=[]:=List.length_eq_zero_iff.1 (by simpa using h2.symm)
  subst this
  exact ⟨.nilSl, .nilSl, .inl ⟨rfl, rfl⟩⟩
 ·have hp:∀cs∈es, ∀c∈cs, Pl c:=fun cs hcs c hc=>by
   obtain ⟨j, hj⟩:=List.getElem?_of_mem hcs
   have hlt:j<L.length:=by rw [←h2];exact (List.getElem?_eq_some_iff.1 hj).1
   exact hpl _ _ (h3 j L[j] cs (List.getElem?_eq_getElem hlt) hj) c hc
  refine ⟨.sl es false, .osl t g 0 es.length false sz es true es k1 (.inl rfl) (by omega) (by simp) (fun j cs ds e1 e2=>?_) (fun j cs ds i c d e1 e2 e3 e4=>?_), .inr ⟨es, false, rfl, hl, h2, h3⟩⟩
  ·rw [List.drop_zero, List.take_of_length_le (Nat.le_refl _), e2] at e1
   injection e1 with e1
   rw [e1]
  ·rw [List.drop_zero, List.take_of_length_le (Nat.le_refl _), e2] at e1
   injection e1 with e1
   subst e1
   rw [e3] at e4
   injection e4 with e4
   subst e4
   exact (hp ds (List.mem_of_getElem? e2) c (List.mem_of_getElem? e3)).view
theorem AccR.plain (h:AccR R sz st v L) (hpl:∀a cs, R a cs→∀c∈cs, Pl c) (hl:L.length≤140737488355328):(v=.nilSl∧L=[])∨∃t g es q, v=.osl t g 0 es.length false∧Z0g v=some t∧st.get t=some (.row g sz es true)∧LR R q L∧PV.one q=true∧∀S', st.put t (.row g sz es false)=S'→Zq9 S' v q:=by
 obtain ⟨es, h1, h2, h3⟩:=h
 rcases h1 with ⟨rfl, rfl⟩|⟨t, g, rfl, k1, k2⟩
 ·exact .inl ⟨rfl, List.length_eq_zero_iff.1 (by simpa using h2.symm)⟩
 ·refine .inr ⟨t, g, es, .sl es false, rfl, rfl, k1, .inr ⟨es, false, rfl, hl, h2, h3⟩, rfl, ?_⟩
  rintro S' rfl
  have:=seen_osl (f:=false) (len:=es.length) (St.get_put (st:=st) (t:=t) (k:=.row g sz es false)) (Nat.le_refl _) (fun cs hcs c hc=>by
   obtain ⟨j, hj⟩:=List.getElem?_of_mem (List.mem_of_mem_take hcs)
   have hlt:j<L.length:=by rw [←h2];exact (List.getElem?_eq_some_iff.1 hj).1
   exact hpl _ _ (h3 j L[j] cs (List.getElem?_eq_getElem hlt) hj) c hc)
  rwa [List.take_of_length_le (Nat.le_refl _)] at this
end
def scPF (sz bytes:Nat) (z:List PV):PF:=⟨8, [(.tmp 2)], (.seq (.ops [(.mk (some 2) none (.move (.c .nilSl)))] []) (.seq (.seq (.ops [(.mk (some 3) none (.move (.t 0))), (.mk (some 4) none (.eqNil false 0 (.t 3)))] [3]) (.cond (.t 4) (.seq (.ops [(.mk (some 2) none (.move (.c .nilSl)))] []) .ret) .skip)) (.seq (.ops [(.mk (some 5) none (.buildSl sz [] [])), (.mk (some 6) none (.move (.t 0))), (.mk (some 7) none (.append sz bytes z (.t 5) (.t 6))), (.mk (some 2) none (.move (.t 7)))] [5, 6, 7]) .ret)))⟩
section
variable {α:Type} {R:α→List PV→Prop} {l:List α} {p:PV} {sz bytes:Nat} {z:List PV}
theorem sCloneRaw {f:Nat} (hf:T.tbl f=some (scPF sz bytes z)) (hz:0<sz) (hby:0<bytes) (hp:LR R p l) (hs:∀a cs, R a cs→cs.length=sz∧∀c∈cs, PV.one c=true) (hb:l.length * bytes≤Z05) (st:St):
  ∃v' st', T.R (.raw f [p] st v' st')∧(AccR R sz st' v' l∨(v'=.sl [] true∧l=[]))∧Grow st .nilSl st' v':=by
 rcases hp with ⟨rfl, rfl⟩|⟨xs, fl, rfl, hbl, hl, h⟩
 ·refine Zeb (Q:=fun v' st'=>(AccR R sz st' v' ([]:List α)∨(v'=.sl [] true∧([]:List α)=[]))∧Grow st .nilSl st' v') hf rfl ?_
  repeat' first|((with_reducible show V _ _ _ _ _ _);first|refine Z80 rfl rfl ⟨.inl .nil, Grow.refl _ _⟩|refine Z1 rfl ?_|refine Za rfl rfl ?_)|refine Z0 rfl ?_|refine Z2 ?_
 ·have hok:okEls sz xs=true:=List.all_eq_true.2 fun cs hcs=>by
   obtain ⟨j, hj⟩:=List.getElem?_of_mem hcs
   have hlt:j<l.length:=by rw [←hl];exact (List.getElem?_eq_some_iff.1 hj).1
   obtain ⟨k1, k2⟩:=hs _ _ (h j l[j] cs (List.getElem?_eq_getElem hlt) hj)
   simp [k1]
   exact k2
  have hbs:∀(look:Nat→Option Tok) (e:EC), Zl look e (.buildSl sz [] [])=some (.sl [] true):=fun look e=>rfl
  cases xs with
  |nil=>
   have:l=[]:=List.length_eq_zero_iff.1 (by simpa using hl.symm)
   subst this
   refine Zeb (Q:=fun v' st'=>(AccR R sz st' v' ([]:List α)∨(v'=.sl [] true∧([]:List α)=[]))∧Grow st .nilSl st' v') hf rfl ?_
   repeat' first|((with_reducible show V _ _ _ _ _ _);first|refine Z80 rfl rfl ⟨.inr ⟨rfl, rfl⟩, rfl, Nat.le_refl _, .inl rfl, fun _ _ _=>rfl⟩|refine Z1 rfl ?_|refine Z9 rfl rfl ?_)|((with_reducible show VO _ _ _ _ _ _ _);first|refine Z0 (hbs _ _) ?_|refine Z25 rfl rfl rfl hok hz hby rfl ?_|refine Z0 rfl ?_|refine Z2 ?_)
  |cons x xs=>
   have ha:=Zkf (st:=st) (sz:=sz) (bytes:=bytes) (xs:=[]) (src:=x::xs) (by simp) (by simp only [List.length_nil, Nat.zero_add];rw [hl];exact hb) rfl
   refine Zeb (Q:=fun v' st'=>(AccR R sz st' v' l∨(v'=.sl [] true∧l=[]))∧Grow st .nilSl st' v') hf rfl ?_
   repeat' first|((with_reducible show V _ _ _ _ _ _);first|refine Z80 rfl rfl ⟨.inl ⟨x::xs, .inr ⟨st.next, 0, by simp, St.get_new, by simp [St.new]⟩, hl, h⟩, rfl, by simp [St.new], .inr ⟨st.next, rfl, Nat.le_refl _⟩, fun u hu _=>St.get_new_old hu⟩|refine Z1 rfl ?_|refine Z9 rfl rfl ?_)|((with_reducible show VO _ _ _ _ _ _ _);first|refine Z0 (hbs _ _) ?_|refine Z25 rfl rfl rfl hok hz hby ha ?_|refine Z0 rfl ?_|refine Z2 ?_)
theorem Zqh {f:Nat} (hf:T.tbl f=some (scPF sz bytes z)) (hz:0<sz) (hby:0<bytes) (hp:LR R p l) (hs:∀a cs, R a cs→cs.length=sz∧∀c∈cs, PV.one c=true) (hpl:∀a cs, R a cs→∀c∈cs, Pl c) (hb:l.length * bytes≤Z05):∃q, T.R (.call f [p] q)∧LR R q l:=by
 obtain ⟨_, _, hbig⟩:=hp.len
 obtain ⟨v', st', h1, h2, _⟩:=sCloneRaw hf hz hby hp hs hb emptySt
 rcases h2 with h2|⟨rfl, rfl⟩
 ·obtain ⟨q, k1, k2⟩:=h2.view hpl hbig
  exact ⟨q, Zif h1 k1, k2⟩
 ·exact ⟨.sl [] true, Zif h1 (.sl [] [] true rfl (fun j cs ds h=>by simp at h) (fun j cs ds i c d h=>by simp at h)), .inr ⟨[], true, rfl, by simp, rfl, fun j a cs h=>by simp at h⟩⟩
end
theorem NmC.one1 {s:List UInt8} {cs:List PV} (h:NmC s cs):cs.length=1∧∀c∈cs, PV.one c=true:=by
 obtain ⟨_, rfl⟩:=h
 exact ⟨rfl, by simp [PV.one]⟩
theorem NuC.one1 {s:Int} {cs:List PV} (h:NuC s cs):cs.length=1∧∀c∈cs, PV.one c=true:=by
 obtain ⟨_, rfl⟩:=h
 exact ⟨rfl, by simp [PV.one]⟩
theorem run_NClone {p:PV} {l:List (List UInt8)} (hp:LR NmC p l) (hl:l.length≤1000000):∃q, T.R (.call Z8r [p] q)∧LR NmC q l:=
 Zqh (sz:=1) (bytes:=16) (z:=[.str []]) rfl (by decide) (by decide) hp (fun _ _ h=>h.one1) (fun _ _ h=>h.pl) (by simp only [Z05];omega)
theorem run_UClone {p:PV} {l:List Int} (hp:LR NuC p l) (hl:l.length≤1000000):∃q, T.R (.call Za2 [p] q)∧LR NuC q l:=
 Zqh (sz:=1) (bytes:=8) (z:=[.int .i64 0]) rfl (by decide) (by decide) hp (fun _ _ h=>h.one1) (fun _ _ h=>h.pl) (by simp only [Z05];omega)
theorem VC.c4 {v:Val} {cs:List PV} (h:VC v cs):cs.length=4∧(∀c∈cs, PV.one c=true)∧∀c∈cs, Pl c:=⟨h.len4, fun c hc=>List.all_eq_true.1 h.one c hc, h.pl⟩
def z4:List PV:=[.int .i64 0, .int .i64 0, .str [], .nilSl]
theorem mayV_l {f:Nat} {k n:Int} {s:List UInt8} {l:List Val} (h:Zp (f+1) (.mk k n s l)=true):l.length≤512∧l.all (Zp f)=true:=by
 unfold Zp at h
 have nil:(l.length:Int)=0→l.length≤512∧l.all (Zp f)=true:=fun h0=>by
  have:l=[]:=List.length_eq_zero_iff.1 (by omega)
  subst this
  simp
 by_cases h1:k=1
 ·simp only [if_pos h1, Bool.and_eq_true, decide_eq_true_eq] at h
  exact nil h.2
 rw [if_neg h1] at h
 by_cases h3:k=3
 ·simp only [if_pos h3, Bool.and_eq_true, decide_eq_true_eq] at h
  exact nil h.1.2
 rw [if_neg h3] at h
 by_cases h6:k=6
 ·simp only [if_pos h6, Bool.and_eq_true, decide_eq_true_eq] at h
  exact nil h.1.1.2
 rw [if_neg h6] at h
 by_cases h7:k=7
 ·simp only [if_pos h7, Bool.and_eq_true, decide_eq_true_eq] at h
  exact nil h.1.1.2
 rw [if_neg h7] at h
 by_cases h2:k=2
 ·simp only [if_pos h2, Bool.and_eq_true, decide_eq_true_eq] at h
  exact nil h.1.2
 rw [if_neg h2] at h
 by_cases h4:k=4
 ·simp only [if_pos h4, Bool.and_eq_true, decide_eq_true_eq] at h
  exact ⟨by omega, h.2⟩
 rw [if_neg h4] at h
 by_cases h5:k=5
 ·simp only [if_pos h5, Bool.and_eq_true, decide_eq_true_eq] at h
  exact ⟨by omega, h.1.2⟩
 rw [if_neg h5] at h
 cases h
def VRow (L:List Val) (es:List (List PV)):Prop:=es.length=L.length∧∀(j:Nat) (a:Val) (cs:List PV), L[j]?=some a→es[j]?=some cs→VC a cs
theorem VRow.set {L:List Val} {es:List (List PV)} (h:VRow L es) {i:Nat} {a:Val} {c:List PV} (ha:L[i]?=some a) (hc:VC a c):VRow L (es.set i c):=
 ⟨by simp [h.1], fun j b cs hb hcs=>by
  rw [List.getElem?_set] at hcs
  split at hcs
  ·rename_i e
   subst e
   split at hcs
   ·injection hcs with hcs
    subst hcs
    rw [ha] at hb
    injection hb with hb
    subst hb
    exact hc
   ·cases hcs
  ·exact h.2 j b cs hb hcs⟩
theorem Zld {look:Nat→Option Tok} {t g len i sz:Nat} {f:Bool} {es:List (List PV)} {lv:Bool} (hg:look t=some (.row g sz es lv)) (hi:i<len):indexS? look sz (i:Int) (.osl t g 0 len f)=some (.rptr t g i 0):=by
 simp only [indexS?]
 rw [if_pos ⟨by omega, by omega⟩]
 simp only [hg, and_self, if_true, Int.toNat_natCast, Nat.zero_add]
theorem ld_row {look:Nat→Option Tok} {t g i sz n:Nat} {es:List (List PV)} {lv:Bool} {cs:List PV} (hg:look t=some (.row g sz es lv)) (hc:es[i]?=some cs) (hl:cs.length=n):loadAt look n true (.rptr t g i 0)=some (.agg cs):=by
 simp only [loadAt, behind, hg, if_true, hc, Option.map_some, Option.bind_some, slice?]
 rw [if_pos (by omega)]
 simp [List.take_of_length_le (Nat.le_of_eq hl)]
theorem st_row {st:St} {t g i sz n:Nat} {es:List (List PV)} {cs ds:List PV} (hg:st.get t=some (.row g sz es true)) (hc:es[i]?=some cs) (hl:cs.length=n) (hd:ds.length=n) (ho:∀c∈ds, PV.one c=true) (h0:0<n) {e:EC} {a x:Opd} (ha:a.get e=some (.rptr t g i 0)) (hx:x.get e=some (.agg ds)):Z13 st e (.store n a x)=some (.tuple [], st.put t (.row g sz (es.set i ds) true)):=by
 have h1:(PV.agg ds).cells.all PV.one=true:=List.all_eq_true.2 ho
 have h2:(PV.agg ds).cells.length=n:=hd
 have h3:(PV.agg ds).cells=ds:=rfl
 simp only [Z13, ha, hx]
 rw [if_pos ⟨h1, h2, h0⟩]
 simp only [storeAt, hg, if_true, hc, h3]
 rw [if_pos (by omega)]
 have:Zad cs 0 ds=ds:=by
  unfold Zad
  simp [hl, hd]
 rw [this]
 rfl
set_option maxHeartbeats 4000000 in
theorem vclone_loop {L:List Val} {k n:Int} {s:List UInt8} {t g:Nat} {fl:Bool} (hL:L.length≤512) (ih:∀a∈L, ∀cs, VC a cs→∃cs', T.R (.call Z8o [.agg cs] (.agg cs'))∧VC a cs'):∀(rest pre:List Val) (st:St) (es:List (List PV)), L=pre++rest→
  st.get 0=some (.var [.int .i64 k, .int .i64 n, .str s, .osl t g 0 L.length fl])→st.get 1=some (.var z4)→st.get t=some (.row g 4 es true)→VRow L es→2≤t→
  V T (PE fun x e st'=>x=.exit 0∧e=Ze [(1, .ptr 0 0), (2, .ptr 1 0)]∧∃es', st'.get 0=some (.var [.int .i64 k, .int .i64 n, .str s, .osl t g 0 L.length fl])∧st'.get 1=some (.var z4)∧st'.get t=some (.row g 4 es' true)∧VRow L es') [.code (.loop Zda)] .normal (Ze [(1, .ptr 0 0), (2, .ptr 1 0), (10, .int .i64 L.length), (11, .int .i64 pre.length)]) st:=by
 intro rest
 induction rest with
 |nil=>
  intro pre st es hl h0 h1 ht he h2
  have hlt:decide ((pre.length:Int)<L.length)=false:=decide_eq_false (by subst hl;simp)
  refine Zf ?_
  repeat' first|((with_reducible show V _ _ _ _ _ _);first|refine Z48 hlt rfl rfl ?_|refine Zr [(1, .ptr 0 0), (2, .ptr 1 0)] rfl ⟨rfl, rfl, trivial⟩ ⟨rfl, rfl, es, h0, h1, ht, he⟩|refine Z1 rfl ?_)|refine Z0 rfl ?_|refine Z2 ?_
 |cons y rest ihr=>
  intro pre st es hl h0 h1 ht he h2
  have hlt:decide ((pre.length:Int)<L.length)=true:=decide_eq_true (by subst hl;simp;omega)
  have hpl:pre.length<L.length:=by subst hl;simp
  have hy:L[pre.length]?=some y:=by subst hl;simp
  obtain ⟨cs, hcs⟩:∃cs, es[pre.length]?=some cs:=⟨_, List.getElem?_eq_getElem (by rw [he.1];exact hpl)⟩
  have hv:=he.2 _ _ _ hy hcs
  obtain ⟨c', c1, c2⟩:=ih y (by subst hl;simp) cs hv
  have l4:=hv.c4.1
  have p4:=hv.c4.2.2
  have m4:=c2.c4.1
  have o4:=c2.c4.2.1
  obtain ⟨B, hB⟩:∃B, st.put t (.row g 4 (es.set pre.length c') true)=B:=⟨_, rfl⟩
  have b0:B.get 0=some (.var [.int .i64 k, .int .i64 n, .str s, .osl t g 0 L.length fl]):=by rw [←hB];exact (St.get_put_old (by omega)).trans h0
  have b1:B.get 1=some (.var z4):=by rw [←hB];exact (St.get_put_old (by omega)).trans h1
  have bt:B.get t=some (.row g 4 (es.set pre.length c') true):=by rw [←hB];exact St.get_put
  have hw:IntKind.i64.wrap ((pre.length:Int)+1)=((pre++[y]).length:Int):=by rw [Z01];simp;omega
  have hi:=ihr (pre++[y]) B (es.set pre.length c') (by rw [hl];simp) b0 b1 bt (he.set hy c2) h2
  have hall:=Zcu (Q:=fun s'=>s'.get 0=some (.var [.int .i64 k, .int .i64 n, .str s, .osl t g 0 L.length fl])) (a:=st) (r:=[st, st, B]) ⟨h0, h0, h0, b0⟩
  have hallt:=Zcu (Q:=fun s'=>∃es', s'.get t=some (.row g 4 es' true)) (a:=st) (r:=[st, st, B]) ⟨⟨_, ht⟩, ⟨_, ht⟩, ⟨_, ht⟩, ⟨_, bt⟩⟩
  have hix:∀(i:Nat) {e:EC} {x j:Opd}, x.get e=some (.osl t g 0 L.length fl)→j.get e=some (.int .i64 (pre.length:Int))→Zl ((mkC [7, 8, 10] [some 21, some 22, none] st [st, st, B] none).S i).get e (.indexS x j 4)=some (.rptr t g pre.length 0):=fun i {e x j} hx hj=>by
   obtain ⟨es', h⟩:=hallt i
   exact Zn0 hx hj (Zld h hpl)
  have hst:∀ {e:EC} {a x:Opd}, a.get e=some (.rptr t g pre.length 0)→x.get e=some (.agg c')→Z13 st e (.store 4 a x)=some (.tuple [], B):=fun {e a x} ha hx=>by
   rw [st_row ht hcs l4 m4 o4 (by decide) ha hx, hB]
  refine Zf ?_
  repeat' first|((with_reducible show V _ _ _ _ _ _);first|refine Z15 hlt rfl rfl ?_|refine V_C (mkC [7, 8, 10] [some 21, some 22, none] st [st, st, B] none) rfl rfl ?_|refine Z7z rfl hi ⟨rfl, rfl, rfl, Z04 hw, trivial⟩|refine Z1 rfl ?_)|refine Z0 rfl ?_|refine Z2 ?_|((with_reducible show Go.AM.VC _ _ _ _ _ _ _ _ _ _);first|refine Zpo rfl rfl rfl rfl rfl rfl rfl (Zl3 rfl (ld_row ht hcs l4)) ?_|refine C_mcall rfl rfl rfl rfl rfl rfl rfl rfl rfl (Z0c) c1 ?_|refine Zki rfl rfl rfl rfl rfl (hst rfl rfl) ?_|refine Zpq rfl rfl rfl hall rfl ?_|refine Zpp rfl rfl (fun i=>hix i rfl rfl) ?_|refine Z9z rfl rfl (fun _=>rfl) ?_|refine C_nil rfl rfl ?_)
set_option maxHeartbeats 4000000 in
theorem Zln:∀(f:Nat) (v:Val) (cs:List PV), Zp f v=true→VC v cs→∃cs', T.R (.call Z8o [.agg cs] (.agg cs'))∧VC v cs'
 |0, v, cs, hm, hv=>by simp [Zp] at hm
 |f+1, .mk k n s l, cs, hm, hv=>by
  obtain ⟨hl, hall⟩:=mayV_l hm
  obtain ⟨hk, hn, hs, p, rfl, hp⟩:=hv.open
  have plp:=hp.pl
  obtain ⟨v', S3, r1, r2, r3⟩:=sCloneRaw (f:=Zbr) (sz:=4) (bytes:=56) (z:=z4) rfl (by decide) (by decide) (p:=p) (l:=l) hp (fun _ _ h=>⟨h.c4.1, h.c4.2.1⟩) (by simp only [Z05];omega) ⟨2, 2, [(0, .var [.int .i64 k, .int .i64 n, .str s, p]), (1, .var z4)]⟩
  have one:PV.one v'=true:=by
   rcases r2 with r2|⟨rfl, _⟩
   ·exact r2.one
   ·rfl
  have q0:S3.get 0=some (.var [.int .i64 k, .int .i64 n, .str s, p]):=r3.2.2.2 0 (show 0<2 by decide) (by simp [Z0g])
  have q1:S3.get 1=some (.var z4):=r3.2.2.2 1 (show 1<2 by decide) (by simp [Z0g])
  have lenv:lenOf v'=some l.length∧Zco v'=false:=by
   rcases r2 with r2|⟨rfl, rfl⟩
   ·exact r2.len
   ·exact ⟨rfl, rfl⟩
  obtain ⟨S4, hS4⟩:∃S, (⟨0, S3.next, S3.toks⟩:St).put 0 (.var [.int .i64 k, .int .i64 n, .str s, v'])=S:=⟨_, rfl⟩
  have hst:storeAt (⟨0, S3.next, S3.toks⟩:St) (.ptr 0 3) v'=some S4:=by
   have hc:v'.cells=[v']:=by
    rcases r2 with ⟨es, r2, _⟩|⟨rfl, _⟩
    ·rcases r2 with ⟨rfl, _⟩|⟨t, g, rfl, _⟩<;>rfl
    ·rfl
   have q0':(⟨0, S3.next, S3.toks⟩:St).get 0=some (.var [.int .i64 k, .int .i64 n, .str s, p]):=q0
   simp only [storeAt, q0', hc]
   rw [if_pos (by simp), ←hS4]
   rfl
  have d0:S4.get 0=some (.var [.int .i64 k, .int .i64 n, .str s, v']):=by rw [←hS4];exact St.get_put
  have d1:S4.get 1=some (.var z4):=by rw [←hS4];exact (St.get_put_old (by decide)).trans q1
  have hcell:v'.cells.all PV.one=true∧v'.cells.length=1:=by
   rcases r2 with ⟨es, r2, _⟩|⟨rfl, _⟩
   ·rcases r2 with ⟨rfl, _⟩|⟨t, g, rfl, _⟩<;>exact ⟨rfl, rfl⟩
   ·exact ⟨rfl, rfl⟩
  have key:∃r, T.R (.call Z8o [.agg [.int .i64 k, .int .i64 n, .str s, p]] r)∧∃cs', r=.agg cs'∧VC (.mk k n s l) cs':=by
   refine Z1z rfl rfl ?_
   by_cases hne:l=[]
   ·subst hne
    have hlt:decide ((0:Int)<(([]:List Val).length:Int))=false:=by decide
    have w0:v'=.nilSl∨(∃t g, v'=.osl t g 0 0 false∧t≠1∧S4.get t=some (.row g 4 [] true))∨v'=.sl [] true:=by
     rcases r2 with ⟨es, r2, e1, _⟩|⟨rfl, _⟩
     ·rcases r2 with ⟨rfl, _⟩|⟨t, g, rfl, k1, k2⟩
      ·exact .inl rfl
      ·have:es=[]:=List.length_eq_zero_iff.1 (by simpa using e1)
       subst this
       have ht2:t≠0:=by
        rintro rfl
        rw [q0] at k1
        cases k1
       have ht1:t≠1:=by
        rintro rfl
        rw [q1] at k1
        cases k1
       refine .inr (.inl ⟨t, g, rfl, ht1, ?_⟩)
       rw [←hS4]
       exact (St.get_put_old (fun e=>ht2 e.symm)).trans k1
     ·exact .inr (.inr rfl)
    obtain ⟨S5, hS5⟩:∃S, S4.put 1 (.var [.int .i64 k, .int .i64 n, .str s, v'])=S:=⟨_, rfl⟩
    have f1:S5.get 1=some (.var [.int .i64 k, .int .i64 n, .str s, v']):=by rw [←hS5];exact St.get_put
    have kp:∀u, u≠1→S5.get u=S4.get u:=fun u hu=>by rw [←hS5];exact St.get_put_old (fun e=>hu e.symm)
    obtain ⟨q, w1', w2⟩:∃q, View true S5.get v' q∧LC [] q:=by
     rcases w0 with h|⟨t, g, h, h1, h2⟩|h
     ·rw [h]
      exact ⟨.nilSl, .nilSl, .inl ⟨rfl, rfl⟩⟩
     ·rw [h]
      exact ⟨.sl [] false, .osl t g 0 0 false 4 [] true [] ((kp t h1).trans h2) (.inl rfl) (by simp) (by simp) (fun j cs ds h=>by simp at h) (fun j cs ds i c d h=>by simp at h), .inr ⟨[], false, rfl, by simp, rfl, fun j a cs h=>by simp at h⟩⟩
     ·rw [h]
      exact ⟨.sl [] true, .sl [] [] true rfl (fun j cs ds h=>by simp at h) (fun j cs ds i c d h=>by simp at h), .inr ⟨[], true, rfl, by simp, rfl, fun j a cs h=>by simp at h⟩⟩
    have hone:∀c∈[PV.int .i64 k, .int .i64 n, .str s, v'], PV.one c=true:=by simp [PV.one];exact one
    have hz4:z4.length=4:=rfl
    have hl4:[PV.int .i64 k, .int .i64 n, .str s, v'].length=4:=rfl
    have hst5:∀ {e:EC} {a x:Opd}, a.get e=some (.ptr 1 0)→x.get e=some (.agg [.int .i64 k, .int .i64 n, .str s, v'])→Z13 S4 e (.store 4 a x)=some (.tuple [], S5):=fun {e a x} ha hx=>by
     have h1:(PV.agg [.int .i64 k, .int .i64 n, .str s, v']).cells.all PV.one=true:=List.all_eq_true.2 hone
     simp only [Z13, ha, hx]
     rw [if_pos ⟨h1, rfl, by decide⟩, Z1d d1 (by rfl), hS5]
     rfl
    have hv4:View true S5.get (.agg [.int .i64 k, .int .i64 n, .str s, v']) (.agg [.int .i64 k, .int .i64 n, .str s, q]):=.agg _ _ rfl (fun i c d h1 h2=>by
     match i, h1, h2 with
     |0, h1, h2=>simp at h1 h2;subst h1 h2;exact .int _ _
     |1, h1, h2=>simp at h1 h2;subst h1 h2;exact .int _ _
     |2, h1, h2=>simp at h1 h2;subst h1 h2;exact .str _
     |3, h1, h2=>simp at h1 h2;subst h1 h2;exact w1'
     |i+4, h1, h2=>simp at h1)
    repeat' first|((with_reducible show V _ _ _ _ _ _);first|refine Z9x rfl (Zf ?_)|refine Z48 hlt rfl rfl ?_|refine Z8u rfl (resC rfl f1 hl4) hv4 ⟨_, rfl, LC.vc w2 hk hn hs⟩|refine Z1 rfl ?_)|((with_reducible show VO _ _ _ _ _ _ _);first|refine O_rawAll r1 r3.1 rfl rfl ?_|refine Z8v rfl rfl hcell.1 hcell.2 rfl hst ?_|refine Z81 rfl d0 rfl ?_|refine Z4 rfl lenv.1 lenv.2 ?_|refine Zt rfl d0 hl4 ?_|refine Zc (hst5 rfl rfl) ?_|refine Z0 rfl ?_|refine Zc rfl ?_|refine Z2 ?_)
   ·obtain ⟨es, t, g, rfl, hrow, ht2, hvr⟩:∃es t g, v'=.osl t g 0 l.length false∧S4.get t=some (.row g 4 es true)∧2≤t∧VRow l es:=by
     rcases r2 with ⟨es, r2, e1, e2⟩|⟨_, h⟩
     ·rcases r2 with ⟨_, h⟩|⟨t, g, rfl, k1, k2⟩
      ·rw [h] at e1
       exact absurd (List.length_eq_zero_iff.1 (by simpa using e1.symm)) hne
      ·have t2:2≤t:=by
        rcases r3.2.2.1 with h|⟨m, h, hm⟩
        ·cases h
        ·injection h with h
         subst h
         exact hm
       refine ⟨es, t, g, by rw [e1], ?_, t2, e1, e2⟩
       rw [←hS4]
       exact (St.get_put_old (by omega)).trans k1
     ·exact absurd h hne
    have hlp:=vclone_loop (k:=k) (n:=n) (s:=s) (t:=t) (g:=g) (fl:=false) hl (fun a ha cs hc=>Zln f a cs (List.all_eq_true.1 hall a ha) hc) l [] S4 es rfl d0 d1 hrow hvr ht2
    repeat' first|refine Z08 rfl hlp ⟨rfl, rfl, rfl, rfl, trivial⟩ ?_|refine Z1 rfl ?_|((with_reducible show VO _ _ _ _ _ _ _);first|refine O_rawAll r1 r3.1 rfl rfl ?_|refine Z8v rfl rfl hcell.1 hcell.2 rfl hst ?_|refine Z81 rfl d0 rfl ?_|refine Z4 rfl lenv.1 lenv.2 ?_|refine Z0 rfl ?_|refine Zc rfl ?_|refine Z2 ?_)
    rintro x e st' ⟨rfl, rfl, es', j0, j1, j2, j3⟩
    obtain ⟨S5, hS5⟩:∃S, st'.put 1 (.var [.int .i64 k, .int .i64 n, .str s, .osl t g 0 l.length false])=S:=⟨_, rfl⟩
    have f1:S5.get 1=some (.var [.int .i64 k, .int .i64 n, .str s, .osl t g 0 l.length false]):=by rw [←hS5];exact St.get_put
    have ft:S5.get t=some (.row g 4 es' true):=by rw [←hS5];exact (St.get_put_old (by omega)).trans j2
    have hlen5:es'.length=l.length:=j3.1
    obtain ⟨q, w1, w2⟩:=AccR.view (R:=VC) (sz:=4) (st:=⟨S5.base, t+1, S5.toks⟩) (v:=.osl t g 0 l.length false) (L:=l) ⟨es', .inr ⟨t, g, by rw [hlen5], ft, by simp⟩, j3.1, j3.2⟩ (fun _ _ h=>h.pl) (by omega)
    have w1':View true S5.get (.osl t g 0 l.length false) q:=w1
    have hl4:[PV.int .i64 k, .int .i64 n, .str s, .osl t g 0 l.length false].length=4:=rfl
    have hst5:∀ {e:EC} {a x:Opd}, a.get e=some (.ptr 1 0)→x.get e=some (.agg [.int .i64 k, .int .i64 n, .str s, .osl t g 0 l.length false])→Z13 st' e (.store 4 a x)=some (.tuple [], S5):=fun {e a x} ha hx=>by
     simp only [Z13, ha, hx]
     rw [if_pos ⟨rfl, rfl, by decide⟩, Z1d j1 (by rfl), hS5]
     rfl
    have hv4:View true S5.get (.agg [.int .i64 k, .int .i64 n, .str s, .osl t g 0 l.length false]) (.agg [.int .i64 k, .int .i64 n, .str s, q]):=.agg _ _ rfl (fun i c d h1 h2=>by
     match i, h1, h2 with
     |0, h1, h2=>simp at h1 h2;subst h1 h2;exact .int _ _
     |1, h1, h2=>simp at h1 h2;subst h1 h2;exact .int _ _
     |2, h1, h2=>simp at h1 h2;subst h1 h2;exact .str _
     |3, h1, h2=>simp at h1 h2;subst h1 h2;exact w1'
     |i+4, h1, h2=>simp at h1)
    repeat' first|refine Z8u rfl (resC rfl f1 hl4) hv4 ⟨_, rfl, LC.vc w2 hk hn hs⟩|refine Z1 rfl ?_|((with_reducible show VO _ _ _ _ _ _ _);first|refine Zt rfl j0 hl4 ?_|refine Zc (hst5 rfl rfl) ?_|refine Z2 ?_)
  obtain ⟨r, k1, cs', rfl, k2⟩:=key
  exact ⟨cs', k1, k2⟩
section
variable {T:Tb} {Q:Z6k} {k:List Fr} {ρ:EC} {st S':St} {l:List POp} {kill:List Nat}
theorem Z0j {a x:Opd} {t n:Nat} {cs cs0:List PV} (hS:st.put t (.var cs)=S') (hg:st.get t=some (.var cs0)) (h1:∀c∈cs, PV.one c=true) (hl:cs.length=n) (h0:cs0.length=n) (hn:Nat.blt 0 n=true) (ha:a.get ρ=some (.ptr t 0)) (hx:x.get ρ=some (.agg cs)) (h:VO T Q l kill k (ρ.sets none (.tuple [])) S'):VO T Q (⟨none, none, .store n a x⟩::l) kill k ρ st:=by
 subst hS
 exact Z03 ha hx h1 hl hn hg h0 h
end
theorem buildSlN {cs z:List PV} {n:Nat} (hl:cs.length=n) (hz:z.length=n) {look:Nat→Option Tok} {e:EC} {i:Nat} (hi:e.get i=some (.agg cs)):Zl look e (.buildSl n [z] [(0, .t i)])=some (.sl [cs] true):=by
 simp only [Zl, Z7m, Zp7, Opd.get, hi]
 simp [Z2h, Z14, PV.cells, PV.isJunk, hl, hz]
theorem Zq3 {cs:List PV} {n:Nat} (hl:cs.length=n) (h1:∀c∈cs, PV.one c=true):okEls n [cs]=true:=by
 simp [okEls, hl]
 exact h1
set_option maxHeartbeats 2000000 in
theorem cvals_loop {L:List Val} {q:PV} (hq:LR VC q L) (hb:L.length≤512) (hall:∀a∈L, ∀cs, VC a cs→∃cs', T.R (.call Z8o [.agg cs] (.agg cs'))∧VC a cs'):∀(rest pre:List Val) (st:St) (v:PV), L=pre++rest→AccR VC 4 st v pre→
  V T (PE fun x e st'=>x=.exit 0∧∃v', e=Ze [(3, v')]∧AccR VC 4 st' v' L) [.code (.loop Z61)] .normal (Ze [(3, v), (6, q), (7, .int .i64 L.length), (8, .int .i64 pre.length)]) st:=by
 intro rest
 induction rest with
 |nil=>
  intro pre st v hl hv
  have hlt:decide ((pre.length:Int)<L.length)=false:=decide_eq_false (by subst hl;simp)
  have hv':AccR VC 4 st v L:=by
   rw [hl, List.append_nil]
   exact hv
  refine Zf ?_
  repeat' first|((with_reducible show V _ _ _ _ _ _);first|refine Z48 hlt rfl rfl ?_|refine Zr [(3, v)] rfl ⟨rfl, trivial⟩ ⟨rfl, v, rfl, hv'⟩|refine Z1 rfl ?_)|refine Z0 rfl ?_|refine Z2 ?_
 |cons y rest ihr=>
  intro pre st v hl hv
  have hlt:decide ((pre.length:Int)<L.length)=true:=decide_eq_true (by subst hl;simp;omega)
  have hpl:pre.length<L.length:=by subst hl;simp
  obtain ⟨cs, ay, hcs⟩:=hq.at (sz:=4) (fun _ _ h=>h.c4.1) (j:=pre.length) (a:=y) (by subst hl;simp)
  obtain ⟨c', c1, c2⟩:=hall y (by subst hl;simp) cs hcs
  have l4:=hcs.c4.1
  have o4:=hcs.c4.2.1
  have p4:=hcs.c4.2.2
  have m4:=c2.c4.1
  obtain ⟨S1, hS1⟩:∃S, st.new (.var z4)=S:=⟨_, rfl⟩
  have a1:S1.get st.next=some (.var z4):=by rw [←hS1];exact St.get_new
  have n1:S1.next=st.next+1:=by rw [←hS1];rfl
  have k1:∀u, u<st.next→S1.get u=st.get u:=fun u hu=>by rw [←hS1];exact St.get_new_old hu
  obtain ⟨S2, hS2⟩:∃S, S1.put st.next (.var cs)=S:=⟨_, rfl⟩
  have a2:S2.get st.next=some (.var cs):=by rw [←hS2];exact St.get_put
  have n2:S2.next=st.next+1:=by rw [←hS2];exact n1
  have k2:∀u, u<st.next→S2.get u=st.get u:=fun u hu=>by rw [←hS2];exact (St.get_put_old (by omega)).trans (k1 u hu)
  have hv2:AccR VC 4 S2 v pre:=hv.keep (by omega) (fun u hu=>k2 u (hv.tok hu).1)
  obtain ⟨v', S3, r1, r2, _⟩:=hv2.app c2 (bytes:=56) (by subst hl;simp only [List.length_append, List.length_cons] at hb;simp only [Z05];omega)
  have hw:IntKind.i64.wrap ((pre.length:Int)+1)=((pre++[y]).length:Int):=by rw [Z01];simp;omega
  have hi:=ihr (pre++[y]) S3 v' (by rw [hl];simp) r2
  have hz:z4.length=4:=rfl
  refine Zf ?_
  repeat' first|((with_reducible show V _ _ _ _ _ _);first|refine Z15 hlt rfl rfl ?_|refine Z7z rfl hi ⟨rfl, rfl, rfl, Z04 hw, trivial⟩|refine Z1 rfl ?_)|((with_reducible show VO _ _ _ _ _ _ _);first|refine Zg rfl rfl ay ?_|refine Z07 rfl l4 ?_|refine Z0b hS1 rfl ?_|refine Z0j hS2 a1 o4 l4 hz rfl rfl rfl ?_|refine Zt rfl a2 l4 ?_|refine Z5 rfl rfl c1 ?_|refine Z0 (buildSlN m4 hz rfl) ?_|refine Z25 rfl rfl rfl (Zq3 m4 c2.c4.2.1) (by decide) (by decide) r1 ?_|refine Z0 rfl ?_|refine Z2 ?_)
theorem run_cvals {q:PV} {L:List Val} (hq:LR VC q L) (hb:L.length≤512) {f:Nat} (hm:L.all (Zp f)=true):∃q', T.R (.call Zi1 [q] q')∧LR VC q' L:=by
 have hlp:=cvals_loop hq hb (fun a ha cs hc=>Zln f a cs (List.all_eq_true.1 hm a ha) hc) L [] emptySt .nilSl rfl .nil
 obtain ⟨e1, e2, _⟩:=hq.len
 refine Z1z rfl rfl ?_
 repeat' first|refine Z08 rfl hlp ⟨rfl, rfl, rfl, rfl, trivial⟩ ?_|refine Z1 rfl ?_|((with_reducible show VO _ _ _ _ _ _ _);first|refine Z4 rfl e1 e2 ?_|refine Z0 rfl ?_|refine Z2 ?_)
 rintro x e st' ⟨rfl, v', rfl, hv'⟩
 obtain ⟨q', w1, w2⟩:=hv'.view (fun _ _ h=>h.pl) (by omega)
 repeat' first|refine Z8u rfl rfl w1 w2|refine Z1 rfl ?_|refine Z0 rfl ?_|refine Z2 ?_
end Go.Proofs.YtnedeokclnbcpaaGreatDoor
