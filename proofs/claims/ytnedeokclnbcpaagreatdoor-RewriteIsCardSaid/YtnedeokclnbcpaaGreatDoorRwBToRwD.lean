/- rewrite.rule, rewrite.simple. · rewrite.simple; stores of whole variables; results in cells. · slices.EqualFunc, slices.Equal; parse.Same. -/
import Derived.Test.YtnedeokclnbcpaaGreatDoorRwPToRwA
set_option linter.unusedVariables false
set_option linter.unusedSimpArgs false
namespace Go.Proofs.YtnedeokclnbcpaaGreatDoor
open Go Go.AM Go.RowKit
theorem Z3b {n:Nat} {op:Int} {subs:List (List Stp)} {pe:PV} (ho:Zn op) (h:LR (SubC (SC n)) pe subs):SC (n+1) (Zj op subs) [.int .i64 op, .nilSl, .nilSl, .nilSl, .nilSl, pe]:=⟨ho, _, _, _, _, _, rfl, .inl ⟨rfl, rfl⟩, .inl ⟨rfl, rfl⟩, .inl ⟨rfl, rfl⟩, .inl ⟨rfl, rfl⟩, h⟩
theorem nu_one {k:Int} (hk:Zn k) (f:Bool):LR NuC (.sl [[.int .i64 k]] f) [k]:=.inr ⟨_, f, rfl, by simp, rfl, fun j a cs h1 h2=>by
 cases j with
 |zero=>simp at h1 h2;subst h1 h2;exact ⟨hk, rfl⟩
 |succ j=>simp at h1⟩
theorem Z6r {n:Nat} {op k:Int} (ho:Zn op) (hk:Zn k):SC (n+1) (numS op k) [.int .i64 op, .nilSl, .sl [[.int .i64 k]] true, .nilSl, .nilSl, .nilSl]:=⟨ho, _, _, _, _, _, rfl, .inl ⟨rfl, rfl⟩, nu_one hk true, .inl ⟨rfl, rfl⟩, .inl ⟨rfl, rfl⟩, .inl ⟨rfl, rfl⟩⟩
def idC:List PV:=[.int .i64 60, .nilSl, .nilSl, .nilSl, .nilSl, .nilSl]
theorem Zkn (n:Nat):SC (n+1) idS idC:=Z3b (by simp [Zn]) (.inl ⟨rfl, rfl⟩)
theorem Zlp:T.R (.call Zjs [] (.agg idC)):=by
 refine Z7 rfl rfl ?_
 repeat' first|refine Z1 rfl ?_|refine Z6 rfl rfl ?_|((with_reducible show VO _ _ _ _ _ _ _);first|refine Z0 rfl ?_|refine Zc rfl ?_|refine Z2 ?_)
 rfl
def limC (k:Int):List PV:=[.int .i64 26, .nilSl, .sl [[.int .i64 k]] true, .nilSl, .nilSl, .nilSl]
theorem Znv (k:Int):T.R (.call Zok [.int .i64 k] (.agg (limC k))):=by
 refine Z7 rfl rfl ?_
 repeat' first|refine Z1 rfl ?_|refine Z6 rfl rfl ?_|((with_reducible show VO _ _ _ _ _ _ _);first|refine Z0 rfl ?_|refine Zc rfl ?_|refine Z2 ?_)
 rfl
theorem limC_pl (k:Int):∀c∈limC k, Pl c:=by
 intro c hc
 simp only [limC, List.mem_cons, List.not_mem_nil, or_false] at hc
 rcases hc with rfl|rfl|rfl|rfl|rfl|rfl<;>first|exact .int _ _|exact .nilSl|exact .sl _ _ (by simp;exact .int _ _)
theorem Z0x {sz:Nat} {v:PV} {n:Int} {cs:List PV} {kk:IntKind} (ha:At sz v n cs) {look:Nat→Option Tok} {e:EC} {x i:Opd} (hx:x.get e=some v) (hi:i.get e=some (.int kk n)):Zl look e (.indexS x i sz)=some (.iptr cs 0):=by
 obtain ⟨h0, hl, xs, f, rfl, hc⟩:=ha
 simp only [Zl, Zp4, hx, hi, Z7w, indexS?]
 rw [if_pos h0, hc]
 simp [hl]
theorem Zc1 {α:Type} {R:α→List PV→Prop} {l:List α} {pe:PV} (h:LR R pe l) (o:Int) {look:Nat→Option Tok} {e:EC} {i:Nat} (hi:e.get i=some pe):Zl look e (.build [.int .i64 0, .nilSl, .nilSl, .nilSl, .nilSl, .nilSl] [(0, (1, .c (.int .i64 o))), (5, (1, .t i))])=some (.agg [.int .i64 o, .nilSl, .nilSl, .nilSl, .nilSl, pe]):=by
 rcases h with ⟨rfl, _⟩|⟨_, _, rfl, _⟩<;>(simp only [Zl, Z7m, Zp7, Opd.get, hi];rfl)
theorem Zqx {α:Type} {R:α→List PV→Prop} {l:List α} {pe:PV} (h:LR R pe l) {o:Int} {look:Nat→Option Tok} {e:EC} {i j:Nat} (hj:e.get j=some (.int .i64 o)) (hi:e.get i=some pe):Zl look e (.build [.int .i64 0, .nilSl, .nilSl, .nilSl, .nilSl, .nilSl] [(0, (1, .t j)), (5, (1, .t i))])=some (.agg [.int .i64 o, .nilSl, .nilSl, .nilSl, .nilSl, pe]):=by
 rcases h with ⟨rfl, _⟩|⟨_, _, rfl, _⟩<;>(simp only [Zl, Z7m, Zp7, Opd.get, hi, hj];rfl)
def stW (a b:List PV):St:=⟨0, 2, [(0, .var a), (1, .var b)]⟩
set_option maxHeartbeats 4000000 in
theorem run_rule {n:Nat} {s:Stp} {cs:List PV} (h:SC n s cs) (hok:okS s=true):∃cs', T.R (.call Zb3 [.agg cs] (.tuple [.agg cs', .bool (rlS s).isSome]))∧(∀x, rlS s=some x→SC n x cs')∧C6 cs':=by
 have hpl:=h.pl
 have hone:=h.one
 have hok0:=hok
 cases n with
 |zero=>exact h.elim
 |succ m=>
 obtain ⟨op, names, nums, preds, vals, subs⟩:=s
 obtain ⟨ho, pa, pb, pc, pd, pe, rfl, h1, h2, h3, h4, h5⟩:=h
 obtain ⟨k1, k2, k3⟩:=Zcb hok
 have pa1:Pl pa:=hpl _ (by simp)
 have pb1:Pl pb:=hpl _ (by simp)
 have pc1:Pl pc:=hpl _ (by simp)
 have pd1:Pl pd:=hpl _ (by simp)
 have pe1:Pl pe:=hpl _ (by simp)
 have hrl:rlS (.mk op names nums preds vals subs)=rlO op nums subs:=rfl
 rw [hrl]
 obtain ⟨e1, e2, e3⟩:=h5.len
 have sub1:subs.length=1→∃l q, subs=[l]∧At 1 pe 0 [q]∧SL m q l:=by
  intro hl
  obtain ⟨l, rfl⟩:=List.length_eq_one_iff.1 hl
  obtain ⟨cy, ay, q, rfl, hq⟩:=h5.at (sz:=1) (fun _ _ h=>h.len1) (j:=0) (a:=l) rfl
  exact ⟨l, q, rfl, ay, hq⟩
 have zpl:=z6_pl
 have h5one:=(Z3b (op:=20) (by simp [Zn]) h5).one
 by_cases o22:op=22∨op=23
 ·by_cases hl:subs.length=1
  ·have hr:rlO op nums subs=some (Zj 20 subs):=by unfold rlO;rw [if_pos o22, if_pos hl]
   rw [hr]
   have d1:PV.bool (decide ((subs.length:Int)=1))=PV.bool true:=Z0f (by omega)
   refine ⟨_, ?_, fun x hx=>(by injection hx with hx;subst hx;exact Z3b (by simp [Zn]) h5), (Z3b (by simp [Zn]) h5).c6⟩
   rcases o22 with rfl|rfl
   ·refine Z7 rfl rfl ?_
    repeat' first|((with_reducible show V _ _ _ _ _ _);first|refine Z1 rfl ?_|refine Za rfl rfl ?_|refine Z9 rfl rfl ?_|refine Z6 rfl rfl ?_)|((with_reducible show VO _ _ _ _ _ _ _);first|refine Z4 rfl e1 e2 ?_|refine Z3 d1 rfl ?_|refine Z0 (Zc1 h5 _ rfl) ?_|refine Z03 rfl rfl h5one rfl rfl rfl rfl ?_|refine Z0 rfl ?_|refine Zc rfl ?_|refine Z2 ?_)
    rfl
   ·refine Z7 rfl rfl ?_
    repeat' first|((with_reducible show V _ _ _ _ _ _);first|refine Z1 rfl ?_|refine Za rfl rfl ?_|refine Z6 rfl rfl ?_)|((with_reducible show VO _ _ _ _ _ _ _);first|refine Z4 rfl e1 e2 ?_|refine Z3 d1 rfl ?_|refine Z0 (Zc1 h5 _ rfl) ?_|refine Z03 rfl rfl h5one rfl rfl rfl rfl ?_|refine Z0 rfl ?_|refine Zc rfl ?_|refine Z2 ?_)
    rfl
  ·have hr:rlO op nums subs=none:=by unfold rlO;rw [if_pos o22, if_neg hl]
   rw [hr]
   have d1:PV.bool (decide ((subs.length:Int)=1))=PV.bool false:=Zb (by omega)
   refine ⟨z6, ?_, fun x hx=>(by cases hx), c6_z⟩
   rcases o22 with rfl|rfl
   ·refine Z7 rfl rfl ?_
    repeat' first|((with_reducible show V _ _ _ _ _ _);first|refine Z1 rfl ?_|refine Za rfl rfl ?_|refine Z9 rfl rfl ?_|refine Z6 rfl rfl ?_)|((with_reducible show VO _ _ _ _ _ _ _);first|refine Z4 rfl e1 e2 ?_|refine Z3 d1 rfl ?_|refine Z0 rfl ?_|refine Zc rfl ?_|refine Z2 ?_)
    rfl
   ·refine Z7 rfl rfl ?_
    repeat' first|((with_reducible show V _ _ _ _ _ _);first|refine Z1 rfl ?_|refine Za rfl rfl ?_|refine Z9 rfl rfl ?_|refine Z6 rfl rfl ?_)|((with_reducible show VO _ _ _ _ _ _ _);first|refine Z4 rfl e1 e2 ?_|refine Z3 d1 rfl ?_|refine Z0 rfl ?_|refine Zc rfl ?_|refine Z2 ?_)
    rfl
 by_cases o21:op=21
 ·subst o21
  obtain ⟨l, q, rfl, ay, hq⟩:=sub1 (by have:=(Z62 (op:=21) rfl k1).2.2.2.2;omega)
  have hr:rlO 21 nums [l]=(Z1r l wnB).map notS:=by unfold rlO;rw [if_neg (by decide), if_pos rfl];rfl
  rw [hr]
  have plq:=SL.pl hq
  have plo:Pl (opsP [21, 20]):=.sl _ _ (by simp [opsP];exact ⟨.int _ _, .int _ _⟩)
  obtain ⟨cx, c1, c2, c3, c4, o6⟩:=run_only hq [21, 20] wnB plo (fun v=>by
   have:=run_con2 21 20 v
   rwa [Bool.or_comm] at this)
  cases hx:Z1r l wnB with
  |none=>
   rw [hx] at c1
   have c1':T.R (.call Z2x [q, .sl [[.int .i64 21], [.int .i64 20]] true] (.tuple [.agg cx, .bool false])):=c1
   refine ⟨z6, ?_, fun x hx=>(by cases hx), c6_z⟩
   refine Z7 rfl rfl ?_
   repeat' first|((with_reducible show V _ _ _ _ _ _);first|refine Z1 rfl ?_|refine Za rfl rfl ?_|refine Z9 rfl rfl ?_|refine Z6 rfl rfl ?_)|((with_reducible show VO _ _ _ _ _ _ _);first|refine Zg rfl rfl ay ?_|refine Z5 rfl rfl c1' ?_|refine Z03 rfl rfl o6 c4 rfl rfl rfl ?_|refine Z0 rfl ?_|refine Zc rfl ?_|refine Z2 ?_)
   rfl
  |some y=>
   rw [hx] at c1 c2
   have c1':T.R (.call Z2x [q, .sl [[.int .i64 21], [.int .i64 20]] true] (.tuple [.agg cx, .bool true])):=c1
   have hy:=c2 y rfl
   obtain ⟨e5, e6⟩:=Z2b hx
   cases m with
   |zero=>exact hy.elim
   |succ m=>
    obtain ⟨yo, yn, yu, yp, yv, ys⟩:=y
    obtain ⟨hyo, xa, xb, xc, xd, xe, rfl, _, _, _, _, y5⟩:=hy
    have xe1:Pl xe:=c3 _ (by simp)
    have xa1:Pl xa:=c3 _ (by simp)
    have xb1:Pl xb:=c3 _ (by simp)
    have xc1:Pl xc:=c3 _ (by simp)
    have xd1:Pl xd:=c3 _ (by simp)
    have hn:notS (.mk yo yn yu yp yv ys)=Zj (if yo=20 then 21 else 20) ys:=rfl
    have y5one:=(Z3b (op:=20) (by simp [Zn]) y5).one
    have y5one':=(Z3b (op:=21) (by simp [Zn]) y5).one
    by_cases h20:yo=20
    ·have d1:=Z0f (p:=yo=20) h20
     refine ⟨[.int .i64 21, .nilSl, .nilSl, .nilSl, .nilSl, xe], ?_, fun x hx=>(by injection hx with hx;subst hx;rw [hn, if_pos h20];exact (Z3b (by simp [Zn]) y5).mono (by omega)), (Z3b (op:=21) (by simp [Zn]) y5).c6⟩
     refine Z7 rfl rfl ?_
     repeat' first|((with_reducible show V _ _ _ _ _ _);first|refine Z1 rfl ?_|refine Za rfl rfl ?_|refine Z9 rfl rfl ?_|refine Z6 rfl rfl ?_)|((with_reducible show VO _ _ _ _ _ _ _);first|refine Zg rfl rfl ay ?_|refine Z5 rfl rfl c1' ?_|refine Z03 rfl rfl o6 rfl rfl rfl rfl ?_|refine Z3 d1 rfl ?_|refine Z0 (Zqx y5 rfl rfl) ?_|refine Z03 rfl rfl y5one' rfl rfl rfl rfl ?_|refine Z0 rfl ?_|refine Zc rfl ?_|refine Z2 ?_)
     rfl
    ·have d1:=Zb (p:=yo=20) h20
     refine ⟨[.int .i64 20, .nilSl, .nilSl, .nilSl, .nilSl, xe], ?_, fun x hx=>(by injection hx with hx;subst hx;rw [hn, if_neg h20];exact (Z3b (by simp [Zn]) y5).mono (by omega)), (Z3b (op:=20) (by simp [Zn]) y5).c6⟩
     refine Z7 rfl rfl ?_
     repeat' first|((with_reducible show V _ _ _ _ _ _);first|refine Z1 rfl ?_|refine Za rfl rfl ?_|refine Z9 rfl rfl ?_|refine Z6 rfl rfl ?_)|((with_reducible show VO _ _ _ _ _ _ _);first|refine Zg rfl rfl ay ?_|refine Z5 rfl rfl c1' ?_|refine Z03 rfl rfl o6 rfl rfl rfl rfl ?_|refine Z3 d1 rfl ?_|refine Z0 (Zqx y5 rfl rfl) ?_|refine Z03 rfl rfl y5one rfl rfl rfl rfl ?_|refine Z0 rfl ?_|refine Zc rfl ?_|refine Z2 ?_)
     rfl
 by_cases o20:op=20
 ·subst o20
  obtain ⟨l, q, rfl, ay, hq⟩:=sub1 (by have:=(Z62 (op:=20) rfl k1).2.2.2.2;omega)
  have hr:rlO 20 nums [l]=Z1r l wnB:=by unfold rlO;rw [if_neg (by decide), if_neg (by decide), if_pos rfl];rfl
  rw [hr]
  have plq:=SL.pl hq
  have plo:Pl (opsP [20, 21]):=.sl _ _ (by simp [opsP];exact ⟨.int _ _, .int _ _⟩)
  obtain ⟨cx, c1, c2, c3, c4, o6⟩:=run_only hq [20, 21] wnB plo (fun v=>run_con2 20 21 v)
  generalize Z1r l wnB=r at c1 c2 ⊢
  have c1':T.R (.call Z2x [q, .sl [[.int .i64 20], [.int .i64 21]] true] (.tuple [.agg cx, .bool r.isSome])):=c1
  refine ⟨cx, ?_, fun x hx=>(c2 x hx).mono (by omega), ⟨c3, c4, o6⟩⟩
  match cx, c4, c1', c3, o6 with
  |[x0, x1, x2, x3, x4, x5], c4, c1', c3, o6=>
   have y0:Pl x0:=c3 _ (by simp)
   have y1:Pl x1:=c3 _ (by simp)
   have y2:Pl x2:=c3 _ (by simp)
   have y3:Pl x3:=c3 _ (by simp)
   have y4:Pl x4:=c3 _ (by simp)
   have y5:Pl x5:=c3 _ (by simp)
   refine Z7 rfl rfl ?_
   repeat' first|((with_reducible show V _ _ _ _ _ _);first|refine Z1 rfl ?_|refine Za rfl rfl ?_|refine Z9 rfl rfl ?_|refine Z6 rfl rfl ?_)|((with_reducible show VO _ _ _ _ _ _ _);first|refine Zg rfl rfl ay ?_|refine Z5 rfl rfl c1' ?_|refine Z03 rfl rfl o6 rfl rfl rfl rfl ?_|refine Z0 rfl ?_|refine Zc rfl ?_|refine Z2 ?_)
   rfl
 by_cases o54:op=54∨op=27
 ·obtain ⟨k, rfl⟩:∃k, nums=[k]:=by
   rcases o54 with rfl|rfl
   ·exact len1 (Z62 (op:=54) rfl k1).2.1
   ·exact len1 (Z62 (op:=27) rfl k1).2.1
  obtain ⟨cy, ay, hy, rfl⟩:=h2.at (sz:=1) (fun _ _ h=>h.len1) (j:=0) (a:=k) rfl
  have hr:rlO op [k] subs=if k=0 then some idS else none:=by
   unfold rlO
   rw [if_neg o22, if_neg o21, if_neg o20, if_pos o54]
   rfl
  rw [hr]
  have hid:=Zlp
  have fin:T.R (.call Zb3 [.agg [.int .i64 op, pa, pb, pc, pd, pe]] (.tuple [.agg idC, .bool (decide (k=0))])):=by
   rcases o54 with rfl|rfl
   ·refine Z7 rfl rfl ?_
    repeat' first|((with_reducible show V _ _ _ _ _ _);first|refine V_M 6 (stW [.int .i64 54, pa, pb, pc, pd, pe] idC) rfl ?_|refine Z1 rfl ?_|refine Za rfl rfl ?_|refine Z9 rfl rfl ?_|refine Z6 rfl rfl ?_)|((with_reducible show VO _ _ _ _ _ _ _);first|refine Z0 rfl ?_|refine Zc rfl ?_|refine Z2 ?_)|((with_reducible show VM _ _ _ _ _ _ _ _ _ _ _);first|refine Zkh rfl (.inl rfl) rfl rfl (Z0c) (Z0c) hid ?_|refine Z1n rfl (.inl rfl) (Z0x ay rfl rfl) (Z0x ay rfl rfl) ?_|refine Zh1 rfl rfl ?_|refine Z1n rfl (.inl rfl) rfl rfl ?_|refine Z1n rfl (.inr rfl) rfl rfl ?_|refine Zqa ?_)
    rfl
   ·refine Z7 rfl rfl ?_
    repeat' first|((with_reducible show V _ _ _ _ _ _);first|refine V_M 6 (stW [.int .i64 27, pa, pb, pc, pd, pe] idC) rfl ?_|refine Z1 rfl ?_|refine Za rfl rfl ?_|refine Z9 rfl rfl ?_|refine Z6 rfl rfl ?_)|((with_reducible show VO _ _ _ _ _ _ _);first|refine Z0 rfl ?_|refine Zc rfl ?_|refine Z2 ?_)|((with_reducible show VM _ _ _ _ _ _ _ _ _ _ _);first|refine Zkh rfl (.inl rfl) rfl rfl (Z0c) (Z0c) hid ?_|refine Z1n rfl (.inl rfl) (Z0x ay rfl rfl) (Z0x ay rfl rfl) ?_|refine Zh1 rfl rfl ?_|refine Z1n rfl (.inl rfl) rfl rfl ?_|refine Z1n rfl (.inr rfl) rfl rfl ?_|refine Zqa ?_)
    rfl
  have pid:∀c∈idC, Pl c:=(Zkn 0).pl
  by_cases hk:k=0
  ·rw [if_pos hk]
   rw [decide_eq_true hk] at fin
   exact ⟨idC, fin, fun x hx=>(by injection hx with hx;subst hx;exact Zkn m), (Zkn 0).c6⟩
  ·rw [if_neg hk]
   rw [decide_eq_false hk] at fin
   exact ⟨idC, fin, fun x hx=>(by cases hx), (Zkn 0).c6⟩
 by_cases o52:op=52
 ·subst o52
  obtain ⟨l, q, rfl, ay, hq⟩:=sub1 (by have:=(Z62 (op:=52) rfl k1).2.2.2.2;omega)
  have hr:rlO 52 nums [l]=Z1r l (fun o=>decide (o=60)):=by unfold rlO;rw [if_neg (by decide), if_neg (by decide), if_neg (by decide), if_neg (by decide), if_pos rfl];rfl
  rw [hr]
  have plq:=SL.pl hq
  have plo:Pl (opsP [60]):=.sl _ _ (by simp [opsP];exact .int _ _)
  obtain ⟨cx, c1, c2, c3, c4, o6⟩:=run_only hq [60] (fun o=>decide (o=60)) plo (fun v=>run_con1 60 v)
  generalize Z1r l (fun o=>decide (o=60))=r at c1 c2 ⊢
  have c1':T.R (.call Z2x [q, .sl [[.int .i64 60]] true] (.tuple [.agg cx, .bool r.isSome])):=c1
  refine ⟨cx, ?_, fun x hx=>(c2 x hx).mono (by omega), ⟨c3, c4, o6⟩⟩
  match cx, c4, c1', c3, o6 with
  |[x0, x1, x2, x3, x4, x5], c4, c1', c3, o6=>
   have y0:Pl x0:=c3 _ (by simp)
   have y1:Pl x1:=c3 _ (by simp)
   have y2:Pl x2:=c3 _ (by simp)
   have y3:Pl x3:=c3 _ (by simp)
   have y4:Pl x4:=c3 _ (by simp)
   have y5:Pl x5:=c3 _ (by simp)
   refine Z7 rfl rfl ?_
   repeat' first|((with_reducible show V _ _ _ _ _ _);first|refine Z1 rfl ?_|refine Za rfl rfl ?_|refine Z9 rfl rfl ?_|refine Z6 rfl rfl ?_)|((with_reducible show VO _ _ _ _ _ _ _);first|refine Zg rfl rfl ay ?_|refine Z5 rfl rfl c1' ?_|refine Z03 rfl rfl o6 rfl rfl rfl rfl ?_|refine Z0 rfl ?_|refine Zc rfl ?_|refine Z2 ?_)
   rfl
 by_cases o28:op=28
 ·subst o28
  obtain ⟨a, b, rfl⟩:∃a b, nums=[a, b]:=by
   have:=(Z62 (op:=28) rfl k1).2.1
   match nums, this with
   |[a, b], _=>exact ⟨a, b, rfl⟩
  obtain ⟨ca, aa, ha, rfl⟩:=h2.at (sz:=1) (fun _ _ h=>h.len1) (j:=0) (a:=a) rfl
  obtain ⟨cb, ab, hb, rfl⟩:=h2.at (sz:=1) (fun _ _ h=>h.len1) (j:=1) (a:=b) rfl
  have hr:rlO 28 [a, b] subs=if a≥b then some (limS 0) else if a=0 then some (limS b) else none:=by
   unfold rlO
   rw [if_neg (by decide), if_neg (by decide), if_neg (by decide), if_neg (by decide), if_neg (by decide), if_pos rfl]
   rfl
  rw [hr]
  by_cases hab:a≥b
  ·rw [if_pos hab]
   have d1:=Z0f (p:=b≤a) hab
   have hl:=Znv 0
   refine ⟨limC 0, ?_, fun x hx=>(by injection hx with hx;subst hx;exact Z6r (by simp [Zn]) (by simp [Zn])), (Z6r (n:=0) (op:=26) (k:=0) (by simp [Zn]) (by simp [Zn])).c6⟩
   refine Z7 rfl rfl ?_
   repeat' first|((with_reducible show V _ _ _ _ _ _);first|refine Z1 rfl ?_|refine Za rfl rfl ?_|refine Z9 rfl rfl ?_|refine Z6 rfl rfl ?_|refine V_D rfl ?_)|((with_reducible show VO _ _ _ _ _ _ _);first|refine Z3 d1 rfl ?_|refine Z5 rfl rfl hl ?_|refine Z0 rfl ?_|refine Zc rfl ?_|refine Z2 ?_)|((with_reducible show VD _ _ _ _ _ _ _);first|refine Z40 rfl rfl aa ?_|refine Z40 rfl rfl ab ?_|refine Zo rfl ?_|refine Z0a ?_)
   rfl
  ·rw [if_neg hab]
   have d1:=Zb (p:=b≤a) hab
   have hl:=Znv b
   have fin:T.R (.call Zb3 [.agg [.int .i64 28, pa, pb, pc, pd, pe]] (.tuple [.agg (limC b), .bool (decide (a=0))])):=by
    refine Z7 rfl rfl ?_
    repeat' first|((with_reducible show V _ _ _ _ _ _);first|refine Z1 rfl ?_|refine Za rfl rfl ?_|refine Z9 rfl rfl ?_|refine Z6 rfl rfl ?_|refine V_D rfl ?_)|((with_reducible show VO _ _ _ _ _ _ _);first|refine Z3 d1 rfl ?_|refine Z5 rfl rfl hl ?_|refine Z0 rfl ?_|refine Zc rfl ?_|refine Z2 ?_)|((with_reducible show VD _ _ _ _ _ _ _);first|refine Z40 rfl rfl aa ?_|refine Z40 rfl rfl ab ?_|refine Zo rfl ?_|refine Z0a ?_)
    rfl
   by_cases ha0:a=0
   ·rw [if_pos ha0]
    rw [decide_eq_true ha0] at fin
    exact ⟨limC b, fin, fun x hx=>(by injection hx with hx;subst hx;exact Z6r (by simp [Zn]) hb), (Z6r (n:=0) (op:=26) (by simp [Zn]) hb).c6⟩
   ·rw [if_neg ha0]
    rw [decide_eq_false ha0] at fin
    exact ⟨limC b, fin, fun x hx=>(by cases hx), (Z6r (n:=0) (op:=26) (by simp [Zn]) hb).c6⟩
 have hr:rlO op nums subs=none:=by
  unfold rlO
  rw [if_neg o22, if_neg o21, if_neg o20, if_neg o54, if_neg o52, if_neg o28]
 rw [hr]
 rw [not_or] at o22 o54
 refine ⟨z6, ?_, fun x hx=>(by cases hx), c6_z⟩
 refine Z7 rfl rfl ?_
 repeat' first|((with_reducible show V _ _ _ _ _ _);first|refine Z1 rfl ?_|refine Z9 rfl rfl ?_|refine Z6 rfl rfl ?_)|((with_reducible show VO _ _ _ _ _ _ _);first|refine Z3 (Zb o22.2) rfl ?_|refine Z3 (Zb o22.1) rfl ?_|refine Z3 (Zb o21) rfl ?_|refine Z3 (Zb o20) rfl ?_|refine Z3 (Zb o54.1) rfl ?_|refine Z3 (Zb o54.2) rfl ?_|refine Z3 (Zb o52) rfl ?_|refine Z3 (Zb o28) rfl ?_|refine Z0 rfl ?_|refine Zc rfl ?_|refine Z2 ?_)
 rfl
section
variable {T:Tb} {Q:Z6k} {k:List Fr} {ρ:EC} {st S':St} {l:List POp} {kill:List Nat}
theorem Z1g {a x:Opd} {t n:Nat} {cs cs0:List PV} (hS:st.put t (.var cs)=S') (hg:st.get t=some (.var cs0)) (hc:C6 cs) (h0:cs0.length=6) (ha:a.get ρ=some (.ptr t 0)) (hx:x.get ρ=some (.agg cs)) (hn:n=6) (h:VO T Q l kill k (ρ.sets none (.tuple [])) S'):VO T Q (⟨none, none, .store n a x⟩::l) kill k ρ st:=by
 subst hS hn
 exact Z03 ha hx hc.2.2 hc.2.1 rfl hg h0 h
theorem Z0b {d:Option Nat} {cs:List PV} {m:Nat} (hS:st.new (.var cs)=S') (hn:st.next=m) (h:VO T Q l kill k (ρ.sets d (.ptr m 0)) S'):VO T Q (⟨d, none, .alloc cs⟩::l) kill k ρ st:=by
 subst hS hn
 exact Zc rfl h
end
theorem Z9y {T:Tb} {Q:Z6k} {k:List Fr} {ρ:EC} {st S':St} {l:List POp} {kill:List Nat} {d:Option Nat} {x:Opd} {cs:List PV} {m:Nat} (hS:st.new (.var cs)=S') (hn:st.next=m) (hx:x.get ρ=some (.agg cs)) (h:VO T Q l kill k (ρ.sets d (.ptr m 0)) S'):VO T Q (⟨d, none, .box x⟩::l) kill k ρ st:=by
 subst hS hn
 exact Zc (by simp only [Z13, hx];rfl) h
theorem Zi3 {look:Nat→Option Tok} {t n:Nat} {cs:List PV} (hg:look t=some (.var cs)) (hl:cs.length=n):loadAt look n true (.ptr t 0)=some (.agg cs):=by
 simp only [loadAt, behind, hg, Option.bind_some]
 rw [←hl]
 simp [slice?]
theorem resC {e:EC} {look:Nat→Option Tok} {t a n:Nat} {cs:List PV} (ha:e.get a=some (.ptr t 0)) (hg:look t=some (.var cs)) (hl:cs.length=n):resG e look [.cell a n true]=some (.agg cs):=by
 have:=Zi3 hg hl
 simp [resG, resGs, resG1, ha, this]
theorem simple_loop {n:Nat}:∀s:Stp, ∀(cs cx:List PV) (st:St) (tx:Nat), SC n s cs→okS s=true→st.get 0=some (.var cs)→(∃z, st.get 1=some (.var z)∧z.length=6)→st.get tx=some (.var cx)→2≤tx→tx<st.next→(∀x, rlS s=some x→SC n x cx)→C6 cx→
  V T (PE fun y e st'=>y=.exit 0∧e=Ze [(1, .ptr 0 0), (2, .ptr 1 0)]∧∃cs', st'.get 0=some (.var cs')∧SC n (Z7i s) cs'∧∃z, st'.get 1=some (.var z)∧z.length=6) [.code (.loop Z9r)] .normal (Ze [(1, .ptr 0 0), (2, .ptr 1 0), (3, .ptr tx 0), (4, .bool (rlS s).isSome)]) st:=by
 refine simS_ind (fun s hr cs cx st tx hs hok h0 h1 hx htx hlt hsc hc=>?_) (fun s x hr ih cs cx st tx hs hok h0 h1 hx htx hlt hsc hc=>?_)
 ·rw [Ziu hr, hr]
  obtain ⟨z, h1, hz⟩:=h1
  refine Zf ?_
  repeat' first|((with_reducible show V _ _ _ _ _ _);first|refine Zr [(1, .ptr 0 0), (2, .ptr 1 0)] rfl ⟨rfl, rfl, trivial⟩ ⟨rfl, rfl, cs, h0, hs, z, h1, hz⟩|refine Z1 rfl ?_|refine Z9 rfl rfl ?_)|refine Z0 rfl ?_|refine Z2 ?_
 ·rw [Zit hr, hr]
  have hxs:=hsc x hr
  have hxo:=rlS_ok hok hr
  obtain ⟨cy, y1, y2, y3⟩:=run_rule hxs hxo
  obtain ⟨z, h1, hz⟩:=h1
  obtain ⟨S1, hS1⟩:∃S1, st.put 0 (.var cx)=S1:=⟨_, rfl⟩
  have a0:S1.get 0=some (.var cx):=by rw [←hS1];exact St.get_put
  have a1:S1.get 1=some (.var z):=by rw [←hS1];exact (St.get_put_old (by decide)).trans h1
  have ax:S1.get tx=some (.var cx):=by rw [←hS1];exact (St.get_put_old (by omega)).trans hx
  have an:S1.next=st.next:=by rw [←hS1];rfl
  obtain ⟨S2, hS2⟩:∃S2, S1.new (.var z6)=S2:=⟨_, rfl⟩
  have b0:S2.get 0=some (.var cx):=by rw [←hS2];exact (St.get_new_old (by omega)).trans a0
  have b1:S2.get 1=some (.var z):=by rw [←hS2];exact (St.get_new_old (by omega)).trans a1
  have bx:S2.get st.next=some (.var z6):=by rw [←hS2, ←an];exact St.get_new
  have bn:S2.next=st.next+1:=by rw [←hS2, ←an];rfl
  obtain ⟨S3, hS3⟩:∃S3, S2.put st.next (.var cx)=S3:=⟨_, rfl⟩
  have c0:S3.get 0=some (.var cx):=by rw [←hS3];exact (St.get_put_old (by omega)).trans b0
  have c1:S3.get 1=some (.var z):=by rw [←hS3];exact (St.get_put_old (by omega)).trans b1
  have c2:S3.get st.next=some (.var cx):=by rw [←hS3];exact St.get_put
  have cn:S3.next=st.next+1:=by rw [←hS3];exact bn
  obtain ⟨S4, hS4⟩:∃S4, S3.put st.next (.var cy)=S4:=⟨_, rfl⟩
  have d0:S4.get 0=some (.var cx):=by rw [←hS4];exact (St.get_put_old (by omega)).trans c0
  have d1:S4.get 1=some (.var z):=by rw [←hS4];exact (St.get_put_old (by omega)).trans c1
  have d2:S4.get st.next=some (.var cy):=by rw [←hS4];exact St.get_put
  have dn:S4.next=st.next+1:=by rw [←hS4];exact cn
  have hi:=ih cx cy S4 st.next hxs hxo d0 ⟨z, d1, hz⟩ d2 (by omega) (by omega) y2 y3
  have l6:=hs.len6
  have lx:=hc.2.1
  have z66:z6.length=6:=rfl
  have plx:=hc.1
  refine Zf ?_
  repeat' first|((with_reducible show V _ _ _ _ _ _);first|refine Z7z rfl hi ⟨rfl, rfl, rfl, rfl, trivial⟩|refine Z1 rfl ?_|refine Za rfl rfl ?_)|((with_reducible show VO _ _ _ _ _ _ _);first|refine Zt rfl hx lx ?_|refine Zt rfl ax lx ?_|refine Zt rfl c0 lx ?_|refine Z1g hS1 h0 hc l6 rfl rfl rfl ?_|refine Z1g hS3 bx hc z66 rfl rfl rfl ?_|refine Z1g hS4 c2 y3 lx rfl rfl rfl ?_|refine Z0b hS2 an ?_|refine Z5 rfl rfl y1 ?_|refine Z0 rfl ?_|refine Z2 ?_)
theorem run_simple {n:Nat} {s:Stp} {cs:List PV} (h:SC n s cs) (hok:okS s=true):∃cs', T.R (.call Z7r [.agg cs] (.agg cs'))∧SC n (Z7i s) cs':=by
 obtain ⟨cy, y1, y2, y3⟩:=run_rule h hok
 have plc:=h.pl
 have l6:=h.len6
 obtain ⟨S0, hS0⟩:∃S, emptySt.new (.var cs)=S:=⟨_, rfl⟩
 have g0:S0.get 0=some (.var cs):=by rw [←hS0];rfl
 have n0:S0.next=1:=by rw [←hS0];rfl
 obtain ⟨S1, hS1⟩:∃S, S0.new (.var z6)=S:=⟨_, rfl⟩
 have a0:S1.get 0=some (.var cs):=by rw [←hS1];exact (St.get_new_old (by omega)).trans g0
 have a1:S1.get 1=some (.var z6):=by rw [←hS1, ←n0];exact St.get_new
 have n1:S1.next=2:=by rw [←hS1];show S0.next+1=2;omega
 obtain ⟨S2, hS2⟩:∃S, S1.new (.var z6)=S:=⟨_, rfl⟩
 have b0:S2.get 0=some (.var cs):=by rw [←hS2];exact (St.get_new_old (by omega)).trans a0
 have b1:S2.get 1=some (.var z6):=by rw [←hS2];exact (St.get_new_old (by omega)).trans a1
 have b2:S2.get 2=some (.var z6):=by rw [←hS2, ←n1];exact St.get_new
 have n2:S2.next=3:=by rw [←hS2];show S1.next+1=3;omega
 obtain ⟨S3, hS3⟩:∃S, S2.put 2 (.var cy)=S:=⟨_, rfl⟩
 have c0:S3.get 0=some (.var cs):=by rw [←hS3];exact (St.get_put_old (by decide)).trans b0
 have c1:S3.get 1=some (.var z6):=by rw [←hS3];exact (St.get_put_old (by decide)).trans b1
 have c2:S3.get 2=some (.var cy):=by rw [←hS3];exact St.get_put
 have n3:S3.next=3:=by rw [←hS3];exact n2
 have z66:z6.length=6:=rfl
 have hlp:=simple_loop s cs cy S3 2 h hok c0 ⟨z6, c1, rfl⟩ c2 (by decide) (by omega) y2 y3
 have key:∃r, T.R (.call Z7r [.agg cs] r)∧∃cs', r=.agg cs'∧SC n (Z7i s) cs':=by
  refine Z1z rfl rfl ?_
  repeat' first|refine Z08 rfl hlp ⟨rfl, rfl, rfl, rfl, trivial⟩ ?_|refine Z1 rfl ?_|((with_reducible show VO _ _ _ _ _ _ _);first|refine Z9y hS0 rfl rfl ?_|refine Z0b hS1 n0 ?_|refine Z0b hS2 n1 ?_|refine Zt rfl a0 l6 ?_|refine Z1g hS3 b2 y3 z66 rfl rfl rfl ?_|refine Z5 rfl rfl y1 ?_|refine Z0 rfl ?_|refine Z2 ?_)
  rintro x e st' ⟨rfl, rfl, cs', k0, k1, z, k2, k3⟩
  have c6:=k1.c6
  have l6':=c6.2.1
  obtain ⟨S4, hS4⟩:∃S, st'.put 1 (.var cs')=S:=⟨_, rfl⟩
  have d1:S4.get 1=some (.var cs'):=by rw [←hS4];exact St.get_put
  repeat' first|refine Z8u rfl (resC rfl d1 l6') (Pl.agg _ c6.1).view ⟨cs', rfl, k1⟩|refine Z1 rfl ?_|((with_reducible show VO _ _ _ _ _ _ _);first|refine Zt rfl k0 l6' ?_|refine Z1g hS4 k2 c6 k3 rfl rfl rfl ?_|refine Z2 ?_)
 obtain ⟨r, r1, cs', rfl, r2⟩:=key
 exact ⟨cs', r1, r2⟩
open Classical in
noncomputable def eqD {α:Type} (a b:α):Bool:=decide (a=b)
theorem eqD_is {α:Type} {a b:α}:eqD a b=true↔a=b:=by simp [eqD]
theorem eqD_dec {α:Type} {a b:α} {P:Prop} [Decidable P] (h:P↔a=b):decide P=eqD a b:=by
 cases he:eqD a b with
 |true=>exact decide_eq_true (h.2 (eqD_is.1 he))
 |false=>exact decide_eq_false fun hp=>by rw [eqD_is.2 (h.1 hp)] at he;cases he
theorem Zlh {a b:Bool} (h:a=true↔b=true):a=b:=by cases a<;>cases b<;>simp_all
def eqW {α:Type} (E:α→α→Bool):List α→List α→Bool
 |[], []=>true
 |a::r, b::s=>E a b&&eqW E r s
 |_, _=>false
theorem eqW_len {α:Type} {E:α→α→Bool}:∀ {l m:List α}, eqW E l m=true→l.length=m.length
 |[], [], _=>rfl
 |a::r, b::s, h=>by
  rw [eqW, Bool.and_eq_true] at h
  simp [eqW_len h.2]
theorem Zp6 {α:Type}:∀(l m:List α), eqW eqD l m=eqD l m
 |[], []=>(eqD_is.2 rfl).symm
 |[], b::s=>Zlh ⟨fun h=>(by cases h), fun h=>(by cases eqD_is.1 h)⟩
 |a::r, []=>Zlh ⟨fun h=>(by cases h), fun h=>(by cases eqD_is.1 h)⟩
 |a::r, b::s=>by
  rw [eqW, Zp6 r s]
  refine Zlh ?_
  rw [Bool.and_eq_true, eqD_is, eqD_is, eqD_is]
  constructor
  ·rintro ⟨rfl, rfl⟩;rfl
  ·intro h;injection h with h1 h2;exact ⟨h1, h2⟩
def eqaLoop (sz:Nat) (z:List PV):PC:=(.seq (.ops [(.mk (some 18) none (.bin .lss (.t 17) (.t 16)))] []) (.seq (.cond (.t 18) .skip (.exit 0)) (.seq (.block 1 (.seq (.ops [(.mk (some 19) none (.move (.t 17))), (.mk (some 20) none (.indexS (.t 15) (.t 17) sz)), (.mk (some 21) none (.load sz true (.t 20))), (.mk (some 8) none (.alloc z)), (.mk (some 7) none (.move (.t 19))), (.mk none none (.store sz (.t 8) (.t 21)))] [19, 20, 21]) (.seq (.ops [(.mk (some 22) none (.move (.t 1))), (.mk (some 23) none (.move (.t 7))), (.mk (some 24) none (.indexS (.t 22) (.t 23) sz)), (.mk (some 25) none (.load sz true (.t 24))), (.mk (some 9) none (.alloc z)), (.mk none none (.store sz (.t 9) (.t 25)))] [22, 23, 24, 25]) (.seq (.ops [(.mk (some 26) none (.move (.t 2))), (.mk (some 27) none (.load sz true (.t 8))), (.mk (some 28) none (.load sz true (.t 9))), (.mk (some 29) none (.call (.t 26) [(.t 27), (.t 28)])), (.mk (some 30) none (.not (.t 29)))] [26, 27, 28, 29]) (.cond (.t 30) (.seq (.ops [(.mk (some 6) none (.move (.c (.bool false))))] []) .ret) .skip))))) (.ops [(.mk (some 31) none (.bin .add (.t 17) (.c (.int .i64 (1))))), (.mk (some 17) none (.move (.t 31)))] [31]))))
def eqaPF (sz:Nat) (z:List PV):PF:=⟨32, [(.tmp 6)], (.seq (.ops [(.mk (some 6) none (.move (.c (.bool false))))] []) (.seq (.seq (.ops [(.mk (some 10) none (.move (.t 0))), (.mk (some 11) none (.len false (.t 10))), (.mk (some 12) none (.move (.t 1))), (.mk (some 13) none (.len false (.t 12))), (.mk (some 14) none (.bin .neq (.t 11) (.t 13)))] [10, 11, 12, 13]) (.cond (.t 14) (.seq (.ops [(.mk (some 6) none (.move (.c (.bool false))))] []) .ret) .skip)) (.seq (.seq (.ops [(.mk (some 15) none (.move (.t 0))), (.mk (some 16) none (.len false (.t 15))), (.mk (some 17) none (.move (.c (.int .i64 (0)))))] []) (.block 0 (.loop (eqaLoop sz z)))) (.seq (.ops [(.mk (some 6) none (.move (.c (.bool true))))] []) .ret))))⟩
def eqbLoop:PC:=(.seq (.ops [(.mk (some 18) none (.bin .lss (.t 17) (.t 16)))] []) (.seq (.cond (.t 18) .skip (.exit 0)) (.seq (.block 1 (.seq (.ops [(.mk (some 19) none (.move (.t 17))), (.mk (some 20) none (.indexS (.t 15) (.t 17) 1)), (.mk (some 21) none (.load 1 false (.t 20))), (.mk (some 7) none (.move (.t 19))), (.mk (some 8) none (.move (.t 21)))] [19, 20, 21]) (.seq (.ops [(.mk (some 22) none (.move (.t 1))), (.mk (some 23) none (.move (.t 7))), (.mk (some 24) none (.indexS (.t 22) (.t 23) 1)), (.mk (some 25) none (.load 1 false (.t 24))), (.mk (some 9) none (.move (.t 25)))] [22, 23, 24, 25]) (.seq (.ops [(.mk (some 26) none (.move (.t 2))), (.mk (some 27) none (.move (.t 8))), (.mk (some 28) none (.move (.t 9))), (.mk (some 29) none (.call (.t 26) [(.t 27), (.t 28)])), (.mk (some 30) none (.not (.t 29)))] [26, 27, 28, 29]) (.cond (.t 30) (.seq (.ops [(.mk (some 6) none (.move (.c (.bool false))))] []) .ret) .skip))))) (.ops [(.mk (some 31) none (.bin .add (.t 17) (.c (.int .i64 (1))))), (.mk (some 17) none (.move (.t 31)))] [31]))))
def eqbPF:PF:=⟨32, [(.tmp 6)], (.seq (.ops [(.mk (some 6) none (.move (.c (.bool false))))] []) (.seq (.seq (.ops [(.mk (some 10) none (.move (.t 0))), (.mk (some 11) none (.len false (.t 10))), (.mk (some 12) none (.move (.t 1))), (.mk (some 13) none (.len false (.t 12))), (.mk (some 14) none (.bin .neq (.t 11) (.t 13)))] [10, 11, 12, 13]) (.cond (.t 14) (.seq (.ops [(.mk (some 6) none (.move (.c (.bool false))))] []) .ret) .skip)) (.seq (.seq (.ops [(.mk (some 15) none (.move (.t 0))), (.mk (some 16) none (.len false (.t 15))), (.mk (some 17) none (.move (.c (.int .i64 (0)))))] []) (.block 0 (.loop eqbLoop))) (.seq (.ops [(.mk (some 6) none (.move (.c (.bool true))))] []) .ret))))⟩
def eqcLoop:PC:=(.seq (.ops [(.mk (some 14) none (.bin .lss (.t 13) (.t 12)))] []) (.seq (.cond (.t 14) .skip (.exit 0)) (.seq (.block 1 (.seq (.ops [(.mk (some 15) none (.move (.t 13))), (.mk (some 5) none (.move (.t 15)))] [15]) (.seq (.drawn [(.mk (some 16) none (.move (.t 0))), (.mk (some 17) none (.move (.t 5))), (.mk (some 18) none (.indexS (.t 16) (.t 17) 1)), (.mk (some 19) none (.load 1 false (.t 18))), (.mk (some 20) none (.move (.t 1))), (.mk (some 21) none (.move (.t 5))), (.mk (some 22) none (.indexS (.t 20) (.t 21) 1)), (.mk (some 23) none (.load 1 false (.t 22))), (.mk (some 24) none (.bin .neq (.t 19) (.t 23)))] [16, 17, 18, 19, 20, 21, 22, 23]) (.cond (.t 24) (.seq (.ops [(.mk (some 4) none (.move (.c (.bool false))))] []) .ret) .skip)))) (.ops [(.mk (some 25) none (.bin .add (.t 13) (.c (.int .i64 (1))))), (.mk (some 13) none (.move (.t 25)))] [25]))))
def eqcPF:PF:=⟨26, [(.tmp 4)], (.seq (.ops [(.mk (some 4) none (.move (.c (.bool false))))] []) (.seq (.seq (.ops [(.mk (some 6) none (.move (.t 0))), (.mk (some 7) none (.len false (.t 6))), (.mk (some 8) none (.move (.t 1))), (.mk (some 9) none (.len false (.t 8))), (.mk (some 10) none (.bin .neq (.t 7) (.t 9)))] [6, 7, 8, 9]) (.cond (.t 10) (.seq (.ops [(.mk (some 4) none (.move (.c (.bool false))))] []) .ret) .skip)) (.seq (.seq (.ops [(.mk (some 11) none (.move (.t 0))), (.mk (some 12) none (.len false (.t 11))), (.mk (some 13) none (.move (.c (.int .i64 (0)))))] [11]) (.block 0 (.loop eqcLoop))) (.seq (.ops [(.mk (some 4) none (.move (.c (.bool true))))] []) .ret))))⟩
section
variable {α:Type} {R:α→List PV→Prop} {E:α→α→Bool} {l m:List α} {p q:PV} {g:Nat}
theorem eqa_loop {sz:Nat} {z:List PV} (hz:z.length=sz) (h0:Nat.blt 0 sz=true) (hp:LR R p l) (hq:LR R q m) (hlen:l.length=m.length) (hs:∀a cs, R a cs→cs.length=sz) (ho:∀a cs, R a cs→∀c∈cs, PV.one c=true) (hpl:∀a cs, R a cs→∀c∈cs, Pl c)
  (hm:∀a∈l, ∀b∈m, ∀ca cb, R a ca→R b cb→T.R (.call g [.agg ca, .agg cb] (.bool (E a b)))):∀(ra rb pre pr2:List α), l=pre++ra→m=pr2++rb→pre.length=pr2.length→
  V T (PE fun x e st'=>(x=.exit 0∧eqW E ra rb=true)∨(x=.ret∧eqW E ra rb=false∧e=Ze [(6, .bool false)])) [.code (.loop (eqaLoop sz z))] .normal (Ze [(0, p), (1, q), (2, .func g []), (15, p), (16, .int .i64 l.length), (17, .int .i64 pre.length)]) emptySt:=by
 obtain ⟨lp1, lp2, lp3⟩:=hp.len
 have plp:=hp.pl (fun a _ cs h=>hpl a cs h)
 have plq:=hq.pl (fun a _ cs h=>hpl a cs h)
 intro ra
 induction ra with
 |nil=>
  intro rb pre pr2 hl hm2 hpr
  have hlt:¬(pre.length:Int)<l.length:=by subst hl;simp
  have:rb=[]:=by
   rw [hl, hm2] at hlen
   simp at hlen
   exact List.length_eq_zero_iff.1 (by omega)
  subst this
  refine Zf ?_
  repeat' first|((with_reducible show V _ _ _ _ _ _);first|refine Ze4 rfl rfl hlt ?_|refine Zr [] rfl trivial (.inl ⟨rfl, rfl⟩)|refine Z1 rfl ?_)|refine Z0 rfl ?_|refine Z2 ?_
 |cons y ra ih=>
  intro rb pre pr2 hl hm2 hpr
  cases rb with
  |nil=>
   rw [hl, hm2] at hlen
   simp at hlen
   omega
  |cons w rb=>
   have hlt:(pre.length:Int)<l.length:=by subst hl;simp;omega
   have hll:pre.length<l.length:=by subst hl;simp
   have hy:l[pre.length]?=some y:=by subst hl;simp
   have hw2:m[pre.length]?=some w:=by subst hm2;rw [hpr];simp
   obtain ⟨cy, ay, vy⟩:=hp.at hs hy
   obtain ⟨cw, aw, vw⟩:=hq.at hs hw2
   have hcall:=hm y (by subst hl;simp) w (by subst hm2;simp) cy cw vy vw
   have sy:=hs _ _ vy
   have sw:=hs _ _ vw
   have oy:=ho _ _ vy
   have ow:=ho _ _ vw
   have py:=hpl _ _ vy
   have pw:=hpl _ _ vw
   have hw:IntKind.i64.wrap ((pre.length:Int)+1)=((pre++[y]).length:Int):=by rw [Z01];simp;omega
   have hi:=ih rb (pre++[y]) (pr2++[w]) (by rw [hl];simp) (by rw [hm2];simp) (by simp [hpr])
   rw [eqW]
   refine Zf ?_
   cases hE:E y w with
   |false=>
    rw [hE] at hcall
    repeat' first|((with_reducible show V _ _ _ _ _ _);first|refine Z2s rfl rfl hlt ?_|refine Zr [(6, .bool false)] rfl ⟨rfl, trivial⟩ (.inr ⟨rfl, rfl, rfl⟩)|refine Z1 rfl ?_|refine Za rfl rfl ?_)|((with_reducible show VO _ _ _ _ _ _ _);first|refine Zg rfl rfl ay ?_|refine Zg rfl rfl aw ?_|refine Z07 rfl sy ?_|refine Z07 rfl sw ?_|refine Z03 rfl rfl oy sy h0 rfl hz ?_|refine Z03 rfl rfl ow sw h0 rfl hz ?_|refine Zt rfl rfl sy ?_|refine Zt rfl rfl sw ?_|refine Z5 rfl rfl hcall ?_|refine Z0 rfl ?_|refine Zc rfl ?_|refine Z2 ?_)
   |true=>
    rw [hE] at hcall
    rw [Bool.true_and]
    repeat' first|((with_reducible show V _ _ _ _ _ _);first|refine Z2s rfl rfl hlt ?_|refine V_reF rfl hi rfl ⟨rfl, rfl, rfl, rfl, rfl, Z04 hw, trivial⟩ ⟨plp, plq, .func _ _ Z31, plp, .int _ _, .int _ _, trivial⟩|refine Z1 rfl ?_|refine Z9 rfl rfl ?_)|((with_reducible show VO _ _ _ _ _ _ _);first|refine Zg rfl rfl ay ?_|refine Zg rfl rfl aw ?_|refine Z07 rfl sy ?_|refine Z07 rfl sw ?_|refine Z03 rfl rfl oy sy h0 rfl hz ?_|refine Z03 rfl rfl ow sw h0 rfl hz ?_|refine Zt rfl rfl sy ?_|refine Zt rfl rfl sw ?_|refine Z5 rfl rfl hcall ?_|refine Z0 rfl ?_|refine Zc rfl ?_|refine Z2 ?_)
theorem eqb_loop (hp:LR R p l) (hq:LR R q m) (hlen:l.length=m.length) (hs:∀a cs, R a cs→∃c, cs=[c]∧Pl c)
  (hm:∀a∈l, ∀b∈m, ∀ca cb, R a [ca]→R b [cb]→T.R (.call g [ca, cb] (.bool (E a b)))):∀(ra rb pre pr2:List α), l=pre++ra→m=pr2++rb→pre.length=pr2.length→
  V T (PE fun x e st'=>(x=.exit 0∧eqW E ra rb=true)∨(x=.ret∧eqW E ra rb=false∧e=Ze [(6, .bool false)])) [.code (.loop eqbLoop)] .normal (Ze [(0, p), (1, q), (2, .func g []), (15, p), (16, .int .i64 l.length), (17, .int .i64 pre.length)]) emptySt:=by
 obtain ⟨lp1, lp2, lp3⟩:=hp.len
 intro ra
 induction ra with
 |nil=>
  intro rb pre pr2 hl hm2 hpr
  have hlt:¬(pre.length:Int)<l.length:=by subst hl;simp
  have:rb=[]:=by
   rw [hl, hm2] at hlen
   simp at hlen
   exact List.length_eq_zero_iff.1 (by omega)
  subst this
  refine Zf ?_
  repeat' first|((with_reducible show V _ _ _ _ _ _);first|refine Ze4 rfl rfl hlt ?_|refine Zr [] rfl trivial (.inl ⟨rfl, rfl⟩)|refine Z1 rfl ?_)|refine Z0 rfl ?_|refine Z2 ?_
 |cons y ra ih=>
  intro rb pre pr2 hl hm2 hpr
  cases rb with
  |nil=>
   rw [hl, hm2] at hlen
   simp at hlen
   omega
  |cons w rb=>
   have hlt:(pre.length:Int)<l.length:=by subst hl;simp;omega
   have hll:pre.length<l.length:=by subst hl;simp
   have hy:l[pre.length]?=some y:=by subst hl;simp
   have hw2:m[pre.length]?=some w:=by subst hm2;rw [hpr];simp
   obtain ⟨cy, ay, vy⟩:=hp.at (sz:=1) (fun a cs h=>by obtain ⟨c, rfl, _⟩:=hs a cs h;rfl) hy
   obtain ⟨cw, aw, vw⟩:=hq.at (sz:=1) (fun a cs h=>by obtain ⟨c, rfl, _⟩:=hs a cs h;rfl) hw2
   obtain ⟨cy, rfl, py⟩:=hs _ _ vy
   obtain ⟨cw, rfl, pw⟩:=hs _ _ vw
   have hcall:=hm y (by subst hl;simp) w (by subst hm2;simp) cy cw vy vw
   have hw:IntKind.i64.wrap ((pre.length:Int)+1)=((pre++[y]).length:Int):=by rw [Z01];simp;omega
   have hi:=ih rb (pre++[y]) (pr2++[w]) (by rw [hl];simp) (by rw [hm2];simp) (by simp [hpr])
   rw [eqW]
   refine Zf ?_
   cases hE:E y w with
   |false=>
    rw [hE] at hcall
    repeat' first|((with_reducible show V _ _ _ _ _ _);first|refine Z2s rfl rfl hlt ?_|refine Zr [(6, .bool false)] rfl ⟨rfl, trivial⟩ (.inr ⟨rfl, rfl, rfl⟩)|refine Z1 rfl ?_|refine Za rfl rfl ?_)|((with_reducible show VO _ _ _ _ _ _ _);first|refine Zg rfl rfl ay ?_|refine Zg rfl rfl aw ?_|refine Z5 rfl rfl hcall ?_|refine Z0 rfl ?_|refine Z2 ?_)
   |true=>
    rw [hE] at hcall
    rw [Bool.true_and]
    repeat' first|((with_reducible show V _ _ _ _ _ _);first|refine Z2s rfl rfl hlt ?_|refine Z7z rfl hi ⟨rfl, rfl, rfl, rfl, rfl, Z04 hw, trivial⟩|refine Z1 rfl ?_|refine Z9 rfl rfl ?_)|((with_reducible show VO _ _ _ _ _ _ _);first|refine Zg rfl rfl ay ?_|refine Zg rfl rfl aw ?_|refine Z5 rfl rfl hcall ?_|refine Z0 rfl ?_|refine Z2 ?_)
theorem eqc_loop (hp:LR R p l) (hq:LR R q m) (hlen:l.length=m.length) (hs:∀a cs, R a cs→∃c, cs=[c]∧Pl c)
  (hm:∀a∈l, ∀b∈m, ∀ca cb, R a [ca]→R b [cb]→binOp? .neq ca cb=some (.bool (!E a b))):∀(ra rb pre pr2:List α), l=pre++ra→m=pr2++rb→pre.length=pr2.length→
  V T (PE fun x e st'=>(x=.exit 0∧eqW E ra rb=true)∨(x=.ret∧eqW E ra rb=false∧e=Ze [(4, .bool false)])) [.code (.loop eqcLoop)] .normal (Ze [(0, p), (1, q), (12, .int .i64 l.length), (13, .int .i64 pre.length)]) emptySt:=by
 obtain ⟨lp1, lp2, lp3⟩:=hp.len
 intro ra
 induction ra with
 |nil=>
  intro rb pre pr2 hl hm2 hpr
  have hlt:¬(pre.length:Int)<l.length:=by subst hl;simp
  have:rb=[]:=by
   rw [hl, hm2] at hlen
   simp at hlen
   exact List.length_eq_zero_iff.1 (by omega)
  subst this
  refine Zf ?_
  repeat' first|((with_reducible show V _ _ _ _ _ _);first|refine Ze4 rfl rfl hlt ?_|refine Zr [] rfl trivial (.inl ⟨rfl, rfl⟩)|refine Z1 rfl ?_)|refine Z0 rfl ?_|refine Z2 ?_
 |cons y ra ih=>
  intro rb pre pr2 hl hm2 hpr
  cases rb with
  |nil=>
   rw [hl, hm2] at hlen
   simp at hlen
   omega
  |cons w rb=>
   have hlt:(pre.length:Int)<l.length:=by subst hl;simp;omega
   have hll:pre.length<l.length:=by subst hl;simp
   have hy:l[pre.length]?=some y:=by subst hl;simp
   have hw2:m[pre.length]?=some w:=by subst hm2;rw [hpr];simp
   obtain ⟨cy, ay, vy⟩:=hp.at (sz:=1) (fun a cs h=>by obtain ⟨c, rfl, _⟩:=hs a cs h;rfl) hy
   obtain ⟨cw, aw, vw⟩:=hq.at (sz:=1) (fun a cs h=>by obtain ⟨c, rfl, _⟩:=hs a cs h;rfl) hw2
   obtain ⟨cy, rfl, py⟩:=hs _ _ vy
   obtain ⟨cw, rfl, pw⟩:=hs _ _ vw
   have hb:=hm y (by subst hl;simp) w (by subst hm2;simp) cy cw vy vw
   have hw:IntKind.i64.wrap ((pre.length:Int)+1)=((pre++[y]).length:Int):=by rw [Z01];simp;omega
   have hi:=ih rb (pre++[y]) (pr2++[w]) (by rw [hl];simp) (by rw [hm2];simp) (by simp [hpr])
   rw [eqW]
   refine Zf ?_
   cases hE:E y w with
   |false=>
    rw [hE] at hb
    have hb':∀(look:Nat→Option Tok) (e:EC), e.get 19=some cy→e.get 23=some cw→Zl look e (.bin .neq (.t 19) (.t 23))=some (.bool true):=fun look e h1 h2=>by simp only [Zl, Zp4, Opd.get, h1, h2];exact hb
    repeat' first|((with_reducible show V _ _ _ _ _ _);first|refine Z2s rfl rfl hlt ?_|refine Zr [(4, .bool false)] rfl ⟨rfl, trivial⟩ (.inr ⟨rfl, rfl, rfl⟩)|refine Z1 rfl ?_|refine Za rfl rfl ?_|refine V_D rfl ?_)|refine Z0 rfl ?_|refine Z2 ?_|((with_reducible show VD _ _ _ _ _ _ _);first|refine Z40 rfl rfl ay ?_|refine Z40 rfl rfl aw ?_|refine Zo (hb' _ _ rfl rfl) ?_|refine Zo rfl ?_|refine Z0a ?_)
   |true=>
    rw [hE] at hb
    rw [Bool.true_and]
    have hb':∀(look:Nat→Option Tok) (e:EC), e.get 19=some cy→e.get 23=some cw→Zl look e (.bin .neq (.t 19) (.t 23))=some (.bool false):=fun look e h1 h2=>by simp only [Zl, Zp4, Opd.get, h1, h2];exact hb
    repeat' first|((with_reducible show V _ _ _ _ _ _);first|refine Z2s rfl rfl hlt ?_|refine Z7z rfl hi ⟨rfl, rfl, rfl, Z04 hw, trivial⟩|refine Z1 rfl ?_|refine Z9 rfl rfl ?_|refine V_D rfl ?_)|refine Z0 rfl ?_|refine Z2 ?_|((with_reducible show VD _ _ _ _ _ _ _);first|refine Z40 rfl rfl ay ?_|refine Z40 rfl rfl aw ?_|refine Zo (hb' _ _ rfl rfl) ?_|refine Zo rfl ?_|refine Z0a ?_)
theorem eqW_ne {l m:List α} (h:l.length≠m.length):eqW E l m=false:=by
 cases he:eqW E l m with
 |false=>rfl
 |true=>exact absurd (eqW_len he) h
theorem run_eqa {f sz:Nat} {z:List PV} (hf:T.tbl f=some (eqaPF sz z)) (hz:z.length=sz) (h0:Nat.blt 0 sz=true) (hp:LR R p l) (hq:LR R q m) (hs:∀a cs, R a cs→cs.length=sz) (ho:∀a cs, R a cs→∀c∈cs, PV.one c=true) (hpl:∀a cs, R a cs→∀c∈cs, Pl c)
  (hm:∀a∈l, ∀b∈m, ∀ca cb, R a ca→R b cb→T.R (.call g [.agg ca, .agg cb] (.bool (E a b)))):T.R (.call f [p, q, .func g []] (.bool (eqW E l m))):=by
 obtain ⟨e1, e2, e3⟩:=hp.len
 obtain ⟨f1, f2, f3⟩:=hq.len
 by_cases hlen:l.length=m.length
 ·have d1:=Z0k (p:=(l.length:Int)=(m.length:Int)) (by omega)
  have hl:=eqa_loop hz h0 hp hq hlen hs ho hpl hm l m [] [] rfl rfl rfl
  refine Z7 hf rfl ?_
  repeat' first|((with_reducible show V _ _ _ _ _ _);first|refine Z08 rfl hl ⟨rfl, rfl, rfl, rfl, rfl, rfl, trivial⟩ ?_|refine Z1 rfl ?_|refine Z9 rfl rfl ?_)|((with_reducible show VO _ _ _ _ _ _ _);first|refine Z4 rfl e1 e2 ?_|refine Z4 rfl f1 f2 ?_|refine Z3 d1 rfl ?_|refine Z0 rfl ?_|refine Z2 ?_)
  rintro x e st' (⟨rfl, he⟩|⟨rfl, he, rfl⟩)
  ·rw [he]
   repeat' first|refine Z1 rfl ?_|refine Z6 rfl rfl ?_|refine Z0 rfl ?_|refine Z2 ?_
   rfl
  ·rw [he]
   repeat' first|refine Z6 rfl rfl ?_
   rfl
 ·have d1:=Z0e (p:=(l.length:Int)=(m.length:Int)) (by omega)
  rw [eqW_ne hlen]
  refine Z7 hf rfl ?_
  repeat' first|((with_reducible show V _ _ _ _ _ _);first|refine Z1 rfl ?_|refine Za rfl rfl ?_|refine Z6 rfl rfl ?_)|((with_reducible show VO _ _ _ _ _ _ _);first|refine Z4 rfl e1 e2 ?_|refine Z4 rfl f1 f2 ?_|refine Z3 d1 rfl ?_|refine Z0 rfl ?_|refine Z2 ?_)
  rfl
theorem run_eqb {f:Nat} (hf:T.tbl f=some eqbPF) (hp:LR R p l) (hq:LR R q m) (hs:∀a cs, R a cs→∃c, cs=[c]∧Pl c)
  (hm:∀a∈l, ∀b∈m, ∀ca cb, R a [ca]→R b [cb]→T.R (.call g [ca, cb] (.bool (E a b)))):T.R (.call f [p, q, .func g []] (.bool (eqW E l m))):=by
 obtain ⟨e1, e2, e3⟩:=hp.len
 obtain ⟨f1, f2, f3⟩:=hq.len
 by_cases hlen:l.length=m.length
 ·have d1:=Z0k (p:=(l.length:Int)=(m.length:Int)) (by omega)
  have hl:=eqb_loop hp hq hlen hs hm l m [] [] rfl rfl rfl
  refine Z7 hf rfl ?_
  repeat' first|((with_reducible show V _ _ _ _ _ _);first|refine Z08 rfl hl ⟨rfl, rfl, rfl, rfl, rfl, rfl, trivial⟩ ?_|refine Z1 rfl ?_|refine Z9 rfl rfl ?_)|((with_reducible show VO _ _ _ _ _ _ _);first|refine Z4 rfl e1 e2 ?_|refine Z4 rfl f1 f2 ?_|refine Z3 d1 rfl ?_|refine Z0 rfl ?_|refine Z2 ?_)
  rintro x e st' (⟨rfl, he⟩|⟨rfl, he, rfl⟩)
  ·rw [he]
   repeat' first|refine Z1 rfl ?_|refine Z6 rfl rfl ?_|refine Z0 rfl ?_|refine Z2 ?_
   rfl
  ·rw [he]
   repeat' first|refine Z6 rfl rfl ?_
   rfl
 ·have d1:=Z0e (p:=(l.length:Int)=(m.length:Int)) (by omega)
  rw [eqW_ne hlen]
  refine Z7 hf rfl ?_
  repeat' first|((with_reducible show V _ _ _ _ _ _);first|refine Z1 rfl ?_|refine Za rfl rfl ?_|refine Z6 rfl rfl ?_)|((with_reducible show VO _ _ _ _ _ _ _);first|refine Z4 rfl e1 e2 ?_|refine Z4 rfl f1 f2 ?_|refine Z3 d1 rfl ?_|refine Z0 rfl ?_|refine Z2 ?_)
  rfl
theorem run_eqc {f:Nat} (hf:T.tbl f=some eqcPF) (hp:LR R p l) (hq:LR R q m) (hs:∀a cs, R a cs→∃c, cs=[c]∧Pl c)
  (hm:∀a∈l, ∀b∈m, ∀ca cb, R a [ca]→R b [cb]→binOp? .neq ca cb=some (.bool (!E a b))):T.R (.call f [p, q] (.bool (eqW E l m))):=by
 obtain ⟨e1, e2, e3⟩:=hp.len
 obtain ⟨f1, f2, f3⟩:=hq.len
 by_cases hlen:l.length=m.length
 ·have d1:=Z0k (p:=(l.length:Int)=(m.length:Int)) (by omega)
  have hl:=eqc_loop hp hq hlen hs hm l m [] [] rfl rfl rfl
  refine Z7 hf rfl ?_
  repeat' first|((with_reducible show V _ _ _ _ _ _);first|refine Z08 rfl hl ⟨rfl, rfl, rfl, rfl, trivial⟩ ?_|refine Z1 rfl ?_|refine Z9 rfl rfl ?_)|((with_reducible show VO _ _ _ _ _ _ _);first|refine Z4 rfl e1 e2 ?_|refine Z4 rfl f1 f2 ?_|refine Z3 d1 rfl ?_|refine Z0 rfl ?_|refine Z2 ?_)
  rintro x e st' (⟨rfl, he⟩|⟨rfl, he, rfl⟩)
  ·rw [he]
   repeat' first|refine Z1 rfl ?_|refine Z6 rfl rfl ?_|refine Z0 rfl ?_|refine Z2 ?_
   rfl
  ·rw [he]
   repeat' first|refine Z6 rfl rfl ?_
   rfl
 ·have d1:=Z0e (p:=(l.length:Int)=(m.length:Int)) (by omega)
  rw [eqW_ne hlen]
  refine Z7 hf rfl ?_
  repeat' first|((with_reducible show V _ _ _ _ _ _);first|refine Z1 rfl ?_|refine Za rfl rfl ?_|refine Z6 rfl rfl ?_)|((with_reducible show VO _ _ _ _ _ _ _);first|refine Z4 rfl e1 e2 ?_|refine Z4 rfl f1 f2 ?_|refine Z3 d1 rfl ?_|refine Z0 rfl ?_|refine Z2 ?_)
  rfl
end
end Go.Proofs.YtnedeokclnbcpaaGreatDoor
