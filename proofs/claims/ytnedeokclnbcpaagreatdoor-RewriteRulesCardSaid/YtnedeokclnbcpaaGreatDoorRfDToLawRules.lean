/- rambleref20.pair: two steps as one. · The reference's ok, Simple, Pair, Trim (rambleref20); rewrite.may, Simple, Pair; the statement's one. · RewriteRules: the law. -/
import Derived.Test.YtnedeokclnbcpaaGreatDoorRwPToRwA
import Derived.Test.YtnedeokclnbcpaaGreatDoorRwEToRwH
import Derived.Test.YtnedeokclnbcpaaGreatDoorRfBToRfC
import Derived.Test.YtnedeokclnbcpaaGreatDoorRwUToRwY
import Derived.Test.YtnedeokclnbcpaaGreatDoorNameBToStpF
import Derived.Test.YtnedeokclnbcpaaGreatDoorRwZToRfA
set_option linter.unusedVariables false
set_option linter.unusedSimpArgs false
namespace Go.Proofs.YtnedeokclnbcpaaGreatDoor
open Go Go.AM Go.RowKit
abbrev zS:Stp:=Zk 0 []
theorem sc_z (n:Nat):SC (n+1) zS z6:=Z39 (by simp [Zm]) (.inl ⟨rfl, rfl⟩)
theorem pairS_mk (oa:Int) (an:List (List UInt8)) (au:List Int) (ap:List Prd) (av:List Val) (az:List (List Stp)) (ob:Int) (bn:List (List UInt8)) (bu:List Int) (bp:List Prd) (bv:List Val) (bs:List (List Stp)):pairS (.mk oa an au ap av az) (.mk ob bn bu bp bv bs)=if oa=24∧ob=24 then some (.mk ob bn bu bp bv bs) else if oa=26∧ob=26 then some (limS (min2 (au.headD 0) (bu.headD 0))) else if oa=27∧ob=27∧au.headD 0≤9007199254740992-bu.headD 0 then some (skS (au.headD 0+bu.headD 0)) else if Zaz oa=true∧(Zaz ob=true∨ob=35) then some (.mk ob bn bu bp bv bs) else if (Zhx (.mk oa an au ap av az)&&eqSB (.mk oa an au ap av az) (.mk ob bn bu bp bv bs))=true then some (.mk oa an au ap av az) else none:=by
 unfold pairS
 rfl
def PairR (n:Nat) (ca cb:List PV) (r:Option Stp):Prop:=∃cs, T.R (.call Zjd [.agg ca, .agg cb] (.tuple [.agg cs, .bool r.isSome]))∧SC n (r.getD zS) cs
set_option maxRecDepth 20000 in
set_option maxHeartbeats 8000000 in
theorem run_pair {n:Nat} {a b:Stp} {ca cb:List PV} (ha:SC n a ca) (hb:SC n b cb) (oka:okS a=true) (okb:okS b=true):PairR n ca cb (pairS a b):=by
 have ona:=ha.one
 have onb:=hb.one
 have pla:=ha.pl
 have plb:=hb.pl
 have ha0:=ha
 have hb0:=hb
 have htw:=run_twice ha
 have hsm:=run_rSameD n [a] [b] _ _ (Z7o ha) (Z7o hb)
 rw [eqD_one] at hsm
 have ba:=fun (look:Nat→Option Tok) (e:EC) (i:Nat) (hi:e.get i=some (.agg ca))=>Z3m (look:=look) ha.c6 hi
 have bb:=fun (look:Nat→Option Tok) (e:EC) (i:Nat) (hi:e.get i=some (.agg cb))=>Z3m (look:=look) hb.c6 hi
 have psa:Pl (.sl [ca] true):=.sl _ _ (by simpa using pla)
 have psb:Pl (.sl [cb] true):=.sl _ _ (by simpa using plb)
 have hnx:=fun h=>Zap oka h
 have hny:=fun h=>Zap okb h
 cases n with
 |zero=>exact ha.elim
 |succ m=>
 have zc:=sc_z m
 have zone:=zc.one
 obtain ⟨oa, an, au, ap, av, az⟩:=a
 obtain ⟨ob, bn, bu, bp, bv, bs⟩:=b
 rw [pairS_mk]
 generalize Zhx (Stp.mk oa an au ap av az)=fa at htw ⊢
 generalize eqSB (Stp.mk oa an au ap av az) (Stp.mk ob bn bu bp bv bs)=eb at hsm ⊢
 obtain ⟨ioa, a1, a2, a3, a4, a5, rfl, _, hau, _⟩:=ha
 obtain ⟨iob, b1, b2, b3, b4, b5, rfl, _, hbu, _⟩:=hb
 obtain ⟨px0, px1, px2, px3, px4, px5⟩:=pl6 pla
 obtain ⟨py0, py1, py2, py3, py4, py5⟩:=pl6 plb
 have hoa:=Zk9 oa
 have hob:=Zk9 ob
 simp only [Stp.op, Stp.nums] at hnx hny ⊢
 by_cases c24:oa=24∧ob=24
 ·rw [if_pos c24]
  obtain ⟨rfl, rfl⟩:=c24
  refine ⟨_, ?_, hb0⟩
  refine Z7 rfl rfl ?_
  repeat' first|((with_reducible show V _ _ _ _ _ _);first|refine Z1 rfl ?_|refine Z9 rfl rfl ?_|refine Z5 rfl rfl ?_)|((with_reducible show VO _ _ _ _ _ _ _);first|refine Zl rfl rfl rfl ?_|refine Z01 rfl rfl onb rfl rfl rfl rfl ?_|refine Z0 rfl ?_|refine Zb rfl ?_|refine Z2 ?_|refine Zg rfl ?_)
  rfl
 rw [if_neg c24]
 by_cases c26:oa=26∧ob=26
 ·rw [if_pos c26]
  obtain ⟨rfl, rfl⟩:=c26
  obtain ⟨x, rfl, nx⟩:=hnx (.inl rfl)
  obtain ⟨y, rfl, ny⟩:=hny (.inl rfl)
  obtain ⟨cx, ax, ix, rfl⟩:=hau.at (sz:=1) (fun _ _ h=>h.len1) (j:=0) (a:=x) rfl
  obtain ⟨cy, ay, iy, rfl⟩:=hbu.at (sz:=1) (fun _ _ h=>h.len1) (j:=0) (a:=y) rfl
  have ixy:Zm (min2 x y):=by unfold min2;split<;>assumption
  have hl:=Z6d (n:=m) (op:=26) (k:=min2 x y) (by simp [Zm]) ixy
  have o6:∀c∈limC (min2 x y), PV.one c=true:=hl.one
  refine ⟨limC (min2 x y), ?_, hl⟩
  refine Z7 rfl rfl ?_
  repeat' first|((with_reducible show V _ _ _ _ _ _);first|refine V_M (l:=[_, _, _, _, _, _, _, _, _, _, _, ⟨none, none, .store 6 _ _⟩, _]) 11 (st3 [.int .i64 26, a1, a2, a3, a4, a5] [.int .i64 26, b1, b2, b3, b4, b5] (limC (min2 x y))) rfl ?_|refine Z1 rfl ?_|refine Z9 rfl rfl ?_|refine Za rfl rfl ?_|refine Z5 rfl rfl ?_)|((with_reducible show VO _ _ _ _ _ _ _);first|refine Z0 rfl ?_|refine Zb rfl ?_|refine Z2 ?_|refine Zg rfl ?_|refine Zj rfl rfl ?_)|((with_reducible show VM _ _ _ _ _ _ _ _ _ _ _);first|refine Z1j rfl (.inl rfl) (Z3r ax rfl rfl) (Z3r ax rfl rfl) ?_|refine Z1j rfl (.inl rfl) (Z3r ay rfl rfl) (Z3r ay rfl rfl) ?_|refine Zgk rfl (Zl8 o6) ?_|refine Z1j rfl (.inl rfl) rfl rfl ?_|refine Z1j rfl (.inr rfl) rfl rfl ?_|refine Zpt ?_)
  rfl
 rw [if_neg c26]
 by_cases c27:oa=27∧ob=27∧au.headD 0≤9007199254740992-bu.headD 0
 ·rw [if_pos c27]
  obtain ⟨rfl, rfl, hle⟩:=c27
  obtain ⟨x, rfl, nx⟩:=hnx (.inr (.inl rfl))
  obtain ⟨y, rfl, ny⟩:=hny (.inr (.inl rfl))
  have nx':=Zeb nx
  have ny':=Zeb ny
  have hle:x≤9007199254740992-y:=hle
  obtain ⟨cx, ax, ix, rfl⟩:=hau.at (sz:=1) (fun _ _ h=>h.len1) (j:=0) (a:=x) rfl
  obtain ⟨cy, ay, iy, rfl⟩:=hbu.at (sz:=1) (fun _ _ h=>h.len1) (j:=0) (a:=y) rfl
  have ixy:Zm (x+y):=by unfold Zm;omega
  have hl:=Z6d (n:=m) (op:=27) (k:=x+y) (by simp [Zm]) ixy
  have o6:=hl.one
  have e1:PV.int .i64 (IntKind.i64.wrap (x+y))=PV.int .i64 (x+y):=Z5m (Zgm ixy)
  have e2:PV.int .i64 (IntKind.i64.wrap (9007199254740992-y))=PV.int .i64 (9007199254740992-y):=Z5m (Zgm (by unfold Zm;omega))
  have d1:=Z0f hle
  refine ⟨_, ?_, hl⟩
  refine Z7 rfl rfl ?_
  repeat' first|((with_reducible show V _ _ _ _ _ _);first|refine V_M (l:=[_, _, _, _, _, _, _, _, _, _, _, ⟨none, none, .store 6 _ _⟩, _]) 11 (st3 [.int .i64 27, a1, a2, a3, a4, a5] [.int .i64 27, b1, b2, b3, b4, b5] [.int .i64 27, .nilSl, .sl [[.int .i64 (x+y)]] true, .nilSl, .nilSl, .nilSl]) rfl ?_|refine Z1 rfl ?_|refine Z9 rfl rfl ?_|refine Za rfl rfl ?_|refine Z5 rfl rfl ?_|refine V_D rfl ?_)|((with_reducible show VO _ _ _ _ _ _ _);first|refine Z0 rfl ?_|refine Zb rfl ?_|refine Z2 ?_|refine Zj rfl rfl ?_)|((with_reducible show VD _ _ _ _ _ _ _);first|refine Z3w rfl rfl ax ?_|refine Z3w rfl rfl ay ?_|refine Zg3 e2 rfl ?_|refine Zg3 d1 rfl ?_|refine Zn rfl ?_|refine Z08 ?_|refine Zce rfl ?_)|((with_reducible show VM _ _ _ _ _ _ _ _ _ _ _);first|refine Z1j rfl (.inl rfl) (Z3r ax rfl rfl) (Z3r ax rfl rfl) ?_|refine Z1j rfl (.inl rfl) (Z3r ay rfl rfl) (Z3r ay rfl rfl) ?_|refine M_is e1 rfl (.inl rfl) rfl rfl ?_|refine Zgk rfl (Zl8 o6) ?_|refine Z1j rfl (.inl rfl) rfl rfl ?_|refine Z1j rfl (.inr rfl) rfl rfl ?_|refine Zpt ?_)
  rfl
 rw [if_neg c27]
 by_cases d24:oa=24
 ·have n24:¬ob=24:=fun h=>c24 ⟨d24, h⟩
  subst d24
  have ho:T.R (.call Z16 [.int .i64 24] (.bool false)):=hoa
  rw [if_neg (show ¬(Zaz 24=true∧(Zaz ob=true∨ob=35)) from fun h=>by cases h.1)]
  cases fa with
  |false=>
   rw [Bool.false_and, if_neg (by decide)]
   refine ⟨z6, ?_, zc⟩
   refine Z7 rfl rfl ?_
   repeat' first|((with_reducible show V _ _ _ _ _ _);first|refine Z1 rfl ?_|refine Za rfl rfl ?_|refine Z5 rfl rfl ?_|refine V_D rfl ?_)|((with_reducible show VO _ _ _ _ _ _ _);first|refine Z3 (Zd n24) rfl ?_|refine Z4 rfl rfl ho ?_|refine Z4 rfl rfl htw ?_|refine Zl rfl rfl rfl ?_|refine Z0 rfl ?_|refine Zb rfl ?_|refine Z2 ?_|refine Zg rfl ?_|refine Z3t rfl ?_|refine Zj rfl rfl ?_)|((with_reducible show VD _ _ _ _ _ _ _);first|refine Zn rfl ?_|refine Z08 ?_|refine Z74 rfl rfl ?_)
   rfl
  |true=>
   cases eb with
   |true=>
    rw [Bool.true_and, if_pos rfl]
    refine ⟨_, ?_, ha0⟩
    refine Z7 rfl rfl ?_
    repeat' first|((with_reducible show V _ _ _ _ _ _);first|refine Z1 rfl ?_|refine Z9 rfl rfl ?_|refine Za rfl rfl ?_|refine Z5 rfl rfl ?_|refine V_D rfl ?_)|((with_reducible show VO _ _ _ _ _ _ _);first|refine Z3 (Zd n24) rfl ?_|refine Z0 (ba _ _ _ rfl) ?_|refine Z0 (bb _ _ _ rfl) ?_|refine Z4 rfl rfl ho ?_|refine Z4 rfl rfl htw ?_|refine Z4 rfl rfl hsm ?_|refine Zl rfl rfl rfl ?_|refine Z01 rfl rfl ona rfl rfl rfl rfl ?_|refine Z0 rfl ?_|refine Zb rfl ?_|refine Z2 ?_|refine Zg rfl ?_|refine Z3t rfl ?_|refine Zj rfl rfl ?_)|((with_reducible show VD _ _ _ _ _ _ _);first|refine Zn rfl ?_|refine Z08 ?_|refine Z74 rfl rfl ?_)
    rfl
   |false=>
    rw [Bool.true_and, if_neg (by decide)]
    refine ⟨z6, ?_, zc⟩
    refine Z7 rfl rfl ?_
    repeat' first|((with_reducible show V _ _ _ _ _ _);first|refine Z1 rfl ?_|refine Za rfl rfl ?_|refine Z5 rfl rfl ?_|refine V_D rfl ?_)|((with_reducible show VO _ _ _ _ _ _ _);first|refine Z3 (Zd n24) rfl ?_|refine Z0 (ba _ _ _ rfl) ?_|refine Z0 (bb _ _ _ rfl) ?_|refine Z4 rfl rfl ho ?_|refine Z4 rfl rfl htw ?_|refine Z4 rfl rfl hsm ?_|refine Zl rfl rfl rfl ?_|refine Z0 rfl ?_|refine Zb rfl ?_|refine Z2 ?_|refine Zg rfl ?_|refine Z3t rfl ?_|refine Zj rfl rfl ?_)|((with_reducible show VD _ _ _ _ _ _ _);first|refine Zn rfl ?_|refine Z08 ?_|refine Z74 rfl rfl ?_)
    rfl
 by_cases d26:oa=26
 ·have n26:¬ob=26:=fun h=>c26 ⟨d26, h⟩
  subst d26
  have ho:T.R (.call Z16 [.int .i64 26] (.bool false)):=hoa
  rw [if_neg (show ¬(Zaz 26=true∧(Zaz ob=true∨ob=35)) from fun h=>by cases h.1)]
  cases fa with
  |false=>
   rw [Bool.false_and, if_neg (by decide)]
   refine ⟨z6, ?_, zc⟩
   refine Z7 rfl rfl ?_
   repeat' first|((with_reducible show V _ _ _ _ _ _);first|refine Z1 rfl ?_|refine Za rfl rfl ?_|refine Z5 rfl rfl ?_|refine V_D rfl ?_)|((with_reducible show VO _ _ _ _ _ _ _);first|refine Z3 (Zd n26) rfl ?_|refine Z4 rfl rfl ho ?_|refine Z4 rfl rfl htw ?_|refine Zl rfl rfl rfl ?_|refine Z0 rfl ?_|refine Zb rfl ?_|refine Z2 ?_|refine Zg rfl ?_|refine Z3t rfl ?_|refine Zj rfl rfl ?_)|((with_reducible show VD _ _ _ _ _ _ _);first|refine Zn rfl ?_|refine Z08 ?_|refine Z74 rfl rfl ?_)
   rfl
  |true=>
   cases eb with
   |true=>
    rw [Bool.true_and, if_pos rfl]
    refine ⟨_, ?_, ha0⟩
    refine Z7 rfl rfl ?_
    repeat' first|((with_reducible show V _ _ _ _ _ _);first|refine Z1 rfl ?_|refine Z9 rfl rfl ?_|refine Za rfl rfl ?_|refine Z5 rfl rfl ?_|refine V_D rfl ?_)|((with_reducible show VO _ _ _ _ _ _ _);first|refine Z3 (Zd n26) rfl ?_|refine Z0 (ba _ _ _ rfl) ?_|refine Z0 (bb _ _ _ rfl) ?_|refine Z4 rfl rfl ho ?_|refine Z4 rfl rfl htw ?_|refine Z4 rfl rfl hsm ?_|refine Zl rfl rfl rfl ?_|refine Z01 rfl rfl ona rfl rfl rfl rfl ?_|refine Z0 rfl ?_|refine Zb rfl ?_|refine Z2 ?_|refine Zg rfl ?_|refine Z3t rfl ?_|refine Zj rfl rfl ?_)|((with_reducible show VD _ _ _ _ _ _ _);first|refine Zn rfl ?_|refine Z08 ?_|refine Z74 rfl rfl ?_)
    rfl
   |false=>
    rw [Bool.true_and, if_neg (by decide)]
    refine ⟨z6, ?_, zc⟩
    refine Z7 rfl rfl ?_
    repeat' first|((with_reducible show V _ _ _ _ _ _);first|refine Z1 rfl ?_|refine Za rfl rfl ?_|refine Z5 rfl rfl ?_|refine V_D rfl ?_)|((with_reducible show VO _ _ _ _ _ _ _);first|refine Z3 (Zd n26) rfl ?_|refine Z0 (ba _ _ _ rfl) ?_|refine Z0 (bb _ _ _ rfl) ?_|refine Z4 rfl rfl ho ?_|refine Z4 rfl rfl htw ?_|refine Z4 rfl rfl hsm ?_|refine Zl rfl rfl rfl ?_|refine Z0 rfl ?_|refine Zb rfl ?_|refine Z2 ?_|refine Zg rfl ?_|refine Z3t rfl ?_|refine Zj rfl rfl ?_)|((with_reducible show VD _ _ _ _ _ _ _);first|refine Zn rfl ?_|refine Z08 ?_|refine Z74 rfl rfl ?_)
    rfl
 by_cases d27:oa=27
 ·by_cases b27:ob=27
  ·have nle:=fun h=>c27 ⟨d27, b27, h⟩
   subst d27 b27
   obtain ⟨x, rfl, nx⟩:=hnx (.inr (.inl rfl))
   obtain ⟨y, rfl, ny⟩:=hny (.inr (.inl rfl))
   have nx':=Zeb nx
   have ny':=Zeb ny
   obtain ⟨cx, ax, ix, rfl⟩:=hau.at (sz:=1) (fun _ _ h=>h.len1) (j:=0) (a:=x) rfl
   obtain ⟨cy, ay, iy, rfl⟩:=hbu.at (sz:=1) (fun _ _ h=>h.len1) (j:=0) (a:=y) rfl
   have e2:PV.int .i64 (IntKind.i64.wrap (9007199254740992-y))=PV.int .i64 (9007199254740992-y):=Z5m (Zgm (by unfold Zm;omega))
   have nle':¬x≤9007199254740992-y:=nle
   have d1:=Zd nle'
   have ho:T.R (.call Z16 [.int .i64 27] (.bool false)):=hoa
   rw [if_neg (show ¬(Zaz 27=true∧(Zaz 27=true∨(27:Int)=35)) from fun h=>by cases h.1)]
   cases fa with
   |false=>
    rw [Bool.false_and, if_neg (by decide)]
    refine ⟨z6, ?_, zc⟩
    refine Z7 rfl rfl ?_
    repeat' first|((with_reducible show V _ _ _ _ _ _);first|refine Z1 rfl ?_|refine Za rfl rfl ?_|refine Z5 rfl rfl ?_|refine V_D rfl ?_)|((with_reducible show VO _ _ _ _ _ _ _);first|refine Z4 rfl rfl ho ?_|refine Z4 rfl rfl htw ?_|refine Zl rfl rfl rfl ?_|refine Z0 rfl ?_|refine Zb rfl ?_|refine Z2 ?_|refine Z3t rfl ?_|refine Zj rfl rfl ?_)|((with_reducible show VD _ _ _ _ _ _ _);first|refine Z3w rfl rfl ax ?_|refine Z3w rfl rfl ay ?_|refine Zg3 e2 rfl ?_|refine Zg3 d1 rfl ?_|refine Zn rfl ?_|refine Z08 ?_|refine Zce rfl ?_)
    rfl
   |true=>
    cases eb with
    |true=>
     rw [Bool.true_and, if_pos rfl]
     refine ⟨_, ?_, ha0⟩
     refine Z7 rfl rfl ?_
     repeat' first|((with_reducible show V _ _ _ _ _ _);first|refine Z1 rfl ?_|refine Z9 rfl rfl ?_|refine Za rfl rfl ?_|refine Z5 rfl rfl ?_|refine V_D rfl ?_)|((with_reducible show VO _ _ _ _ _ _ _);first|refine Z0 (ba _ _ _ rfl) ?_|refine Z0 (bb _ _ _ rfl) ?_|refine Z4 rfl rfl ho ?_|refine Z4 rfl rfl htw ?_|refine Z4 rfl rfl hsm ?_|refine Zl rfl rfl rfl ?_|refine Z01 rfl rfl ona rfl rfl rfl rfl ?_|refine Z0 rfl ?_|refine Zb rfl ?_|refine Z2 ?_|refine Zg rfl ?_|refine Z3t rfl ?_|refine Zj rfl rfl ?_)|((with_reducible show VD _ _ _ _ _ _ _);first|refine Z3w rfl rfl ax ?_|refine Z3w rfl rfl ay ?_|refine Zg3 e2 rfl ?_|refine Zg3 d1 rfl ?_|refine Zn rfl ?_|refine Z08 ?_|refine Zce rfl ?_)
     rfl
    |false=>
     rw [Bool.true_and, if_neg (by decide)]
     refine ⟨z6, ?_, zc⟩
     refine Z7 rfl rfl ?_
     repeat' first|((with_reducible show V _ _ _ _ _ _);first|refine Z1 rfl ?_|refine Za rfl rfl ?_|refine Z5 rfl rfl ?_|refine V_D rfl ?_)|((with_reducible show VO _ _ _ _ _ _ _);first|refine Z0 (ba _ _ _ rfl) ?_|refine Z0 (bb _ _ _ rfl) ?_|refine Z4 rfl rfl ho ?_|refine Z4 rfl rfl htw ?_|refine Z4 rfl rfl hsm ?_|refine Zl rfl rfl rfl ?_|refine Z0 rfl ?_|refine Zb rfl ?_|refine Z2 ?_|refine Zg rfl ?_|refine Z3t rfl ?_|refine Zj rfl rfl ?_)|((with_reducible show VD _ _ _ _ _ _ _);first|refine Z3w rfl rfl ax ?_|refine Z3w rfl rfl ay ?_|refine Zg3 e2 rfl ?_|refine Zg3 d1 rfl ?_|refine Zn rfl ?_|refine Z08 ?_|refine Zce rfl ?_)
     rfl
  ·subst d27
   have ho:T.R (.call Z16 [.int .i64 27] (.bool false)):=hoa
   rw [if_neg (show ¬(Zaz 27=true∧(Zaz ob=true∨ob=35)) from fun h=>by cases h.1)]
   cases fa with
   |false=>
    rw [Bool.false_and, if_neg (by decide)]
    refine ⟨z6, ?_, zc⟩
    refine Z7 rfl rfl ?_
    repeat' first|((with_reducible show V _ _ _ _ _ _);first|refine Z1 rfl ?_|refine Za rfl rfl ?_|refine Z5 rfl rfl ?_|refine V_D rfl ?_)|((with_reducible show VO _ _ _ _ _ _ _);first|refine Z4 rfl rfl ho ?_|refine Z4 rfl rfl htw ?_|refine Zl rfl rfl rfl ?_|refine Z0 rfl ?_|refine Zb rfl ?_|refine Z2 ?_|refine Z3t rfl ?_|refine Zj rfl rfl ?_)|((with_reducible show VD _ _ _ _ _ _ _);first|refine Zg3 (Zd b27) rfl ?_|refine Zn rfl ?_|refine Z08 ?_|refine Zce rfl ?_|refine Z74 rfl rfl ?_)
    rfl
   |true=>
    cases eb with
    |true=>
     rw [Bool.true_and, if_pos rfl]
     refine ⟨_, ?_, ha0⟩
     refine Z7 rfl rfl ?_
     repeat' first|((with_reducible show V _ _ _ _ _ _);first|refine Z1 rfl ?_|refine Z9 rfl rfl ?_|refine Za rfl rfl ?_|refine Z5 rfl rfl ?_|refine V_D rfl ?_)|((with_reducible show VO _ _ _ _ _ _ _);first|refine Z0 (ba _ _ _ rfl) ?_|refine Z0 (bb _ _ _ rfl) ?_|refine Z4 rfl rfl ho ?_|refine Z4 rfl rfl htw ?_|refine Z4 rfl rfl hsm ?_|refine Zl rfl rfl rfl ?_|refine Z01 rfl rfl ona rfl rfl rfl rfl ?_|refine Z0 rfl ?_|refine Zb rfl ?_|refine Z2 ?_|refine Zg rfl ?_|refine Z3t rfl ?_|refine Zj rfl rfl ?_)|((with_reducible show VD _ _ _ _ _ _ _);first|refine Zg3 (Zd b27) rfl ?_|refine Zn rfl ?_|refine Z08 ?_|refine Zce rfl ?_|refine Z74 rfl rfl ?_)
     rfl
    |false=>
     rw [Bool.true_and, if_neg (by decide)]
     refine ⟨z6, ?_, zc⟩
     refine Z7 rfl rfl ?_
     repeat' first|((with_reducible show V _ _ _ _ _ _);first|refine Z1 rfl ?_|refine Za rfl rfl ?_|refine Z5 rfl rfl ?_|refine V_D rfl ?_)|((with_reducible show VO _ _ _ _ _ _ _);first|refine Z0 (ba _ _ _ rfl) ?_|refine Z0 (bb _ _ _ rfl) ?_|refine Z4 rfl rfl ho ?_|refine Z4 rfl rfl htw ?_|refine Z4 rfl rfl hsm ?_|refine Zl rfl rfl rfl ?_|refine Z0 rfl ?_|refine Zb rfl ?_|refine Z2 ?_|refine Zg rfl ?_|refine Z3t rfl ?_|refine Zj rfl rfl ?_)|((with_reducible show VD _ _ _ _ _ _ _);first|refine Zg3 (Zd b27) rfl ?_|refine Zn rfl ?_|refine Z08 ?_|refine Zce rfl ?_|refine Z74 rfl rfl ?_)
     rfl
 cases ho:Zaz oa with
 |true=>
  rw [ho] at hoa
  cases hq:Zaz ob with
  |true=>
   rw [hq] at hob
   rw [if_pos ⟨rfl, .inl rfl⟩]
   refine ⟨_, ?_, hb0⟩
   refine Z7 rfl rfl ?_
   repeat' first|((with_reducible show V _ _ _ _ _ _);first|refine Z1 rfl ?_|refine Z9 rfl rfl ?_|refine Za rfl rfl ?_|refine Z5 rfl rfl ?_|refine V_D rfl ?_)|((with_reducible show VO _ _ _ _ _ _ _);first|refine Z3 (Zd d24) rfl ?_|refine Z3 (Zd d26) rfl ?_|refine Z4 rfl rfl hoa ?_|refine Z4 rfl rfl hob ?_|refine Zl rfl rfl rfl ?_|refine Z01 rfl rfl onb rfl rfl rfl rfl ?_|refine Z0 rfl ?_|refine Zb rfl ?_|refine Z2 ?_|refine Zg rfl ?_|refine Zj rfl rfl ?_)|((with_reducible show VD _ _ _ _ _ _ _);first|refine Zg3 (Zd d27) rfl ?_|refine Zn rfl ?_|refine Z08 ?_|refine Z74 rfl rfl ?_)
   rfl
  |false=>
   rw [hq] at hob
   by_cases h35:ob=35
   ·rw [if_pos ⟨rfl, .inr h35⟩]
    refine ⟨_, ?_, hb0⟩
    refine Z7 rfl rfl ?_
    repeat' first|((with_reducible show V _ _ _ _ _ _);first|refine Z1 rfl ?_|refine Z9 rfl rfl ?_|refine Za rfl rfl ?_|refine Z5 rfl rfl ?_|refine V_D rfl ?_)|((with_reducible show VO _ _ _ _ _ _ _);first|refine Z3 (Zd d24) rfl ?_|refine Z3 (Zd d26) rfl ?_|refine Z3 (Z0f h35) rfl ?_|refine Z4 rfl rfl hoa ?_|refine Z4 rfl rfl hob ?_|refine Zl rfl rfl rfl ?_|refine Z01 rfl rfl onb rfl rfl rfl rfl ?_|refine Z0 rfl ?_|refine Zb rfl ?_|refine Z2 ?_|refine Zg rfl ?_|refine Zj rfl rfl ?_)|((with_reducible show VD _ _ _ _ _ _ _);first|refine Zg3 (Zd d27) rfl ?_|refine Zn rfl ?_|refine Z08 ?_|refine Z74 rfl rfl ?_)
    rfl
   ·rw [if_neg (by rintro ⟨_, h|h⟩;cases h;exact h35 h)]
    cases fa with
    |false=>
     rw [Bool.false_and, if_neg (by decide)]
     refine ⟨z6, ?_, zc⟩
     refine Z7 rfl rfl ?_
     repeat' first|((with_reducible show V _ _ _ _ _ _);first|refine Z1 rfl ?_|refine Za rfl rfl ?_|refine Z5 rfl rfl ?_|refine V_D rfl ?_)|((with_reducible show VO _ _ _ _ _ _ _);first|refine Z3 (Zd d24) rfl ?_|refine Z3 (Zd d26) rfl ?_|refine Z3 (Zd h35) rfl ?_|refine Z4 rfl rfl hoa ?_|refine Z4 rfl rfl hob ?_|refine Z4 rfl rfl htw ?_|refine Zl rfl rfl rfl ?_|refine Z0 rfl ?_|refine Zb rfl ?_|refine Z2 ?_|refine Zg rfl ?_|refine Zj rfl rfl ?_)|((with_reducible show VD _ _ _ _ _ _ _);first|refine Zg3 (Zd d27) rfl ?_|refine Zn rfl ?_|refine Z08 ?_|refine Z74 rfl rfl ?_)
     rfl
    |true=>
     cases eb with
     |true=>
      rw [Bool.true_and, if_pos rfl]
      refine ⟨_, ?_, ha0⟩
      refine Z7 rfl rfl ?_
      repeat' first|((with_reducible show V _ _ _ _ _ _);first|refine Z1 rfl ?_|refine Z9 rfl rfl ?_|refine Za rfl rfl ?_|refine Z5 rfl rfl ?_|refine V_D rfl ?_)|((with_reducible show VO _ _ _ _ _ _ _);first|refine Z3 (Zd d24) rfl ?_|refine Z3 (Zd d26) rfl ?_|refine Z3 (Zd h35) rfl ?_|refine Z0 (ba _ _ _ rfl) ?_|refine Z0 (bb _ _ _ rfl) ?_|refine Z4 rfl rfl hoa ?_|refine Z4 rfl rfl hob ?_|refine Z4 rfl rfl htw ?_|refine Z4 rfl rfl hsm ?_|refine Zl rfl rfl rfl ?_|refine Z01 rfl rfl ona rfl rfl rfl rfl ?_|refine Z0 rfl ?_|refine Zb rfl ?_|refine Z2 ?_|refine Zg rfl ?_|refine Zj rfl rfl ?_)|((with_reducible show VD _ _ _ _ _ _ _);first|refine Zg3 (Zd d27) rfl ?_|refine Zn rfl ?_|refine Z08 ?_|refine Z74 rfl rfl ?_)
      rfl
     |false=>
      rw [Bool.true_and, if_neg (by decide)]
      refine ⟨z6, ?_, zc⟩
      refine Z7 rfl rfl ?_
      repeat' first|((with_reducible show V _ _ _ _ _ _);first|refine Z1 rfl ?_|refine Za rfl rfl ?_|refine Z5 rfl rfl ?_|refine V_D rfl ?_)|((with_reducible show VO _ _ _ _ _ _ _);first|refine Z3 (Zd d24) rfl ?_|refine Z3 (Zd d26) rfl ?_|refine Z3 (Zd h35) rfl ?_|refine Z0 (ba _ _ _ rfl) ?_|refine Z0 (bb _ _ _ rfl) ?_|refine Z4 rfl rfl hoa ?_|refine Z4 rfl rfl hob ?_|refine Z4 rfl rfl htw ?_|refine Z4 rfl rfl hsm ?_|refine Zl rfl rfl rfl ?_|refine Z0 rfl ?_|refine Zb rfl ?_|refine Z2 ?_|refine Zg rfl ?_|refine Zj rfl rfl ?_)|((with_reducible show VD _ _ _ _ _ _ _);first|refine Zg3 (Zd d27) rfl ?_|refine Zn rfl ?_|refine Z08 ?_|refine Z74 rfl rfl ?_)
      rfl
 |false=>
  rw [ho] at hoa
  rw [if_neg (fun h=>by cases h.1)]
  cases fa with
  |false=>
   rw [Bool.false_and, if_neg (by decide)]
   refine ⟨z6, ?_, zc⟩
   refine Z7 rfl rfl ?_
   repeat' first|((with_reducible show V _ _ _ _ _ _);first|refine Z1 rfl ?_|refine Za rfl rfl ?_|refine Z5 rfl rfl ?_|refine V_D rfl ?_)|((with_reducible show VO _ _ _ _ _ _ _);first|refine Z3 (Zd d24) rfl ?_|refine Z3 (Zd d26) rfl ?_|refine Z4 rfl rfl hoa ?_|refine Z4 rfl rfl htw ?_|refine Zl rfl rfl rfl ?_|refine Z0 rfl ?_|refine Zb rfl ?_|refine Z2 ?_|refine Z3t rfl ?_|refine Zj rfl rfl ?_)|((with_reducible show VD _ _ _ _ _ _ _);first|refine Zg3 (Zd d27) rfl ?_|refine Zn rfl ?_|refine Z08 ?_|refine Z74 rfl rfl ?_)
   rfl
  |true=>
   cases eb with
   |true=>
    rw [Bool.true_and, if_pos rfl]
    refine ⟨_, ?_, ha0⟩
    refine Z7 rfl rfl ?_
    repeat' first|((with_reducible show V _ _ _ _ _ _);first|refine Z1 rfl ?_|refine Z9 rfl rfl ?_|refine Za rfl rfl ?_|refine Z5 rfl rfl ?_|refine V_D rfl ?_)|((with_reducible show VO _ _ _ _ _ _ _);first|refine Z3 (Zd d24) rfl ?_|refine Z3 (Zd d26) rfl ?_|refine Z0 (ba _ _ _ rfl) ?_|refine Z0 (bb _ _ _ rfl) ?_|refine Z4 rfl rfl hoa ?_|refine Z4 rfl rfl htw ?_|refine Z4 rfl rfl hsm ?_|refine Zl rfl rfl rfl ?_|refine Z01 rfl rfl ona rfl rfl rfl rfl ?_|refine Z0 rfl ?_|refine Zb rfl ?_|refine Z2 ?_|refine Zg rfl ?_|refine Z3t rfl ?_|refine Zj rfl rfl ?_)|((with_reducible show VD _ _ _ _ _ _ _);first|refine Zg3 (Zd d27) rfl ?_|refine Zn rfl ?_|refine Z08 ?_|refine Z74 rfl rfl ?_)
    rfl
   |false=>
    rw [Bool.true_and, if_neg (by decide)]
    refine ⟨z6, ?_, zc⟩
    refine Z7 rfl rfl ?_
    repeat' first|((with_reducible show V _ _ _ _ _ _);first|refine Z1 rfl ?_|refine Za rfl rfl ?_|refine Z5 rfl rfl ?_|refine V_D rfl ?_)|((with_reducible show VO _ _ _ _ _ _ _);first|refine Z3 (Zd d24) rfl ?_|refine Z3 (Zd d26) rfl ?_|refine Z0 (ba _ _ _ rfl) ?_|refine Z0 (bb _ _ _ rfl) ?_|refine Z4 rfl rfl hoa ?_|refine Z4 rfl rfl htw ?_|refine Z4 rfl rfl hsm ?_|refine Zl rfl rfl rfl ?_|refine Z0 rfl ?_|refine Zb rfl ?_|refine Z2 ?_|refine Zg rfl ?_|refine Z3t rfl ?_|refine Zj rfl rfl ?_)|((with_reducible show VD _ _ _ _ _ _ _);first|refine Zg3 (Zd d27) rfl ?_|refine Zn rfl ?_|refine Z08 ?_|refine Z74 rfl rfl ?_)
    rfl
theorem Zea {s:Stp} (h:Zhz [s]=0):okS s=true:=(okL_all.1 (chk_okX h)).2 s (by simp)
theorem Zka {cs:List PV} (hc:C6 cs):T.R (.call Zkn [.agg cs] (.sl [cs] true)):=by
 have l6:=hc.2.1
 have plc:=hc.1
 have ba:=fun (look:Nat→Option Tok) (e:EC) (i:Nat) (hi:e.get i=some (.agg cs))=>Z3m (look:=look) hc hi
 refine Z7 rfl rfl ?_
 repeat' first|refine Z1 rfl ?_|refine Z5 rfl rfl ?_|((with_reducible show VO _ _ _ _ _ _ _);first|refine Zl rfl rfl l6 ?_|refine Z0 (ba _ _ _ rfl) ?_|refine Z0 rfl ?_|refine Zb rfl ?_|refine Z2 ?_)
 rfl
theorem run_rok {n:Nat} {s:Stp} {cs:List PV} (h:SC n s cs):T.R (.call Zmd [.agg cs] (.bool (decide (Zhz [s]=0)))):=by
 have hc:=h.c6
 have l6:=hc.2.1
 have plc:=hc.1
 have hch:=Zq4 (Z7o h)
 have psa:Pl (.sl [cs] true):=.sl _ _ (by simpa using plc)
 have ba:=fun (look:Nat→Option Tok) (e:EC) (i:Nat) (hi:e.get i=some (.agg cs))=>Z3m (look:=look) hc hi
 generalize Zhz [s]=k at hch ⊢
 refine Z7 rfl rfl ?_
 repeat' first|refine Z1 rfl ?_|refine Z5 rfl rfl ?_|((with_reducible show VO _ _ _ _ _ _ _);first|refine Zl rfl rfl l6 ?_|refine Z0 (ba _ _ _ rfl) ?_|refine Z4 rfl rfl hch ?_|refine Z0 rfl ?_|refine Zb rfl ?_|refine Z2 ?_)
 rfl
open Classical in
noncomputable def smp (s:Stp):Stp:=if Zhz [s]=0 then Z5p s else s
open Classical in
noncomputable def prp (a b:Stp):Option Stp:=if Zhz [a]=0∧Zhz [b]=0 then Z9z a b else none
theorem run_rSimple {n:Nat} {s:Stp} {cs:List PV} (h:SC n s cs):∃cs', T.R (.call Z82 [.agg cs] (.agg cs'))∧SC n (smp s) cs':=by
 have hc:=h.c6
 have l6:=hc.2.1
 have plc:=hc.1
 have one6:=hc.2.2
 have hk:=run_rok h
 have key:∃r, T.R (.call Z82 [.agg cs] r)∧∃cs', r=.agg cs'∧SC n (smp s) cs':=by
  by_cases hz:Zhz [s]=0
  ·obtain ⟨cx, x1, x2⟩:=run_rsimple h (Zea hz)
   have e:smp s=Z5p s:=if_pos hz
   rw [decide_eq_true hz] at hk
   have xc:=x2.c6
   have xl:=xc.2.1
   have xo:=xc.2.2
   rw [e]
   refine Z1l rfl rfl ?_
   repeat' first|((with_reducible show V _ _ _ _ _ _);first|refine Z8i rfl (resC rfl rfl xl) (Pl.agg _ xc.1).view ⟨cx, rfl, x2⟩|refine Z1 rfl ?_|refine Za rfl rfl ?_)|((with_reducible show VO _ _ _ _ _ _ _);first|refine Zl rfl rfl l6 ?_|refine Z4 rfl rfl hk ?_|refine Z4 rfl rfl x1 ?_|refine Z01 rfl rfl xo xl rfl rfl rfl ?_|refine Z0 rfl ?_|refine Zb rfl ?_|refine Z2 ?_)
  ·have e:smp s=s:=if_neg hz
   rw [decide_eq_false hz] at hk
   rw [e]
   refine Z1l rfl rfl ?_
   repeat' first|((with_reducible show V _ _ _ _ _ _);first|refine Z8i rfl (resC rfl rfl l6) (Pl.agg _ plc).view ⟨cs, rfl, h⟩|refine Z1 rfl ?_|refine Z9 rfl rfl ?_)|((with_reducible show VO _ _ _ _ _ _ _);first|refine Zl rfl rfl l6 ?_|refine Z4 rfl rfl hk ?_|refine Z01 rfl rfl one6 l6 rfl rfl rfl ?_|refine Z0 rfl ?_|refine Zb rfl ?_|refine Z2 ?_)
 obtain ⟨r, r1, cs', rfl, r2⟩:=key
 exact ⟨cs', r1, r2⟩
theorem run_rPair {n:Nat} {a b:Stp} {ca cb:List PV} (ha:SC (n+1) a ca) (hb:SC (n+1) b cb):∃cs, T.R (.call Z4u [.agg ca, .agg cb] (.tuple [.agg cs, .bool (prp a b).isSome]))∧SC (n+1) ((prp a b).getD zS) cs:=by
 have la:=ha.len6
 have lb:=hb.len6
 have plca:=ha.pl
 have plcb:=hb.pl
 have ka:=run_rok ha
 have kb:=run_rok hb
 have zo:=(sc_z n).one
 have key:∃r, T.R (.call Z4u [.agg ca, .agg cb] r)∧∃cs, r=.tuple [.agg cs, .bool (prp a b).isSome]∧SC (n+1) ((prp a b).getD zS) cs:=by
  by_cases h1:Zhz [a]=0
  ·rw [decide_eq_true h1] at ka
   by_cases h2:Zhz [b]=0
   ·rw [decide_eq_true h2] at kb
    have e:prp a b=pairS a b:=by rw [pair_join (Zea h1) (Zea h2)];exact if_pos ⟨h1, h2⟩
    rw [e]
    obtain ⟨cx, x1, x2⟩:=run_pair ha hb (Zea h1) (Zea h2)
    have xc:=x2.c6
    have xl:=xc.2.1
    have xo:=xc.2.2
    refine Z1l rfl rfl ?_
    repeat' first|((with_reducible show V _ _ _ _ _ _);first|refine Z8i rfl (resC2 rfl rfl xl rfl) (Pl.tuple _ (Z0b (Pl.agg _ xc.1) (Z0b (.bool _) Z1e))).view ⟨cx, rfl, x2⟩|refine Z1 rfl ?_|refine Za rfl rfl ?_)|((with_reducible show VO _ _ _ _ _ _ _);first|refine Zl rfl rfl la ?_|refine Zl rfl rfl lb ?_|refine Z4 rfl rfl ka ?_|refine Z4 rfl rfl kb ?_|refine Z4 rfl rfl x1 ?_|refine Z01 rfl rfl xo xl rfl rfl rfl ?_|refine Z0 rfl ?_|refine Zb rfl ?_|refine Z2 ?_|refine Zg rfl ?_)
   ·rw [decide_eq_false h2] at kb
    have e:prp a b=none:=if_neg (fun h=>h2 h.2)
    rw [e]
    refine Z1l rfl rfl ?_
    repeat' first|((with_reducible show V _ _ _ _ _ _);first|refine Z8i rfl (resC2 (cs:=z6) rfl rfl rfl rfl) (Pl.tuple _ (Z0b (Pl.agg _ z6_pl) (Z0b (.bool _) Z1e))).view ⟨z6, rfl, sc_z n⟩|refine Z1 rfl ?_|refine Z9 rfl rfl ?_)|((with_reducible show VO _ _ _ _ _ _ _);first|refine Zl rfl rfl la ?_|refine Zl rfl rfl lb ?_|refine Z4 rfl rfl ka ?_|refine Z4 rfl rfl kb ?_|refine Z0 rfl ?_|refine Zb rfl ?_|refine Z2 ?_|refine Zg rfl ?_)
  ·rw [decide_eq_false h1] at ka
   have e:prp a b=none:=if_neg (fun h=>h1 h.1)
   rw [e]
   refine Z1l rfl rfl ?_
   repeat' first|((with_reducible show V _ _ _ _ _ _);first|refine Z8i rfl (resC2 (cs:=z6) rfl rfl rfl rfl) (Pl.tuple _ (Z0b (Pl.agg _ z6_pl) (Z0b (.bool _) Z1e))).view ⟨z6, rfl, sc_z n⟩|refine Z1 rfl ?_|refine Z9 rfl rfl ?_)|((with_reducible show VO _ _ _ _ _ _ _);first|refine Zl rfl rfl la ?_|refine Z4 rfl rfl ka ?_|refine Z0 rfl ?_|refine Zb rfl ?_|refine Z2 ?_|refine Zj rfl rfl ?_)
 obtain ⟨r, r1, cs, rfl, r2⟩:=key
 exact ⟨cs, r1, r2⟩
set_option maxHeartbeats 8000000 in
theorem rtrim_loop {n:Nat}:∀(N:Nat) (l:List Stp) (p:PV) (st:St), l.length≤N→SL n p l→
  V T (PE fun x e st'=>(x=.exit 0∧∃q, e=Zf [(0, q)]∧SL n q (trimS l))∨(x=.ret∧∃q, e=Zf [(2, q)]∧SL n q (trimS l))) [.code (.loop Z3g)] .normal (Zf [(0, p)]) st:=by
 have stop:∀(l:List Stp) (p:PV) (st:St), l.length≤1→SL n p l→V T (PE fun x e st'=>(x=.exit 0∧∃q, e=Zf [(0, q)]∧SL n q (trimS l))∨(x=.ret∧∃q, e=Zf [(2, q)]∧SL n q (trimS l))) [.code (.loop Z3g)] .normal (Zf [(0, p)]) st:=by
  intro l p st hl hp
  obtain ⟨e1, e2, _⟩:=hp.len
  have hlt:decide ((1:Int)<(l.length:Int))=false:=decide_eq_false (by omega)
  rw [trimS_one l hl]
  refine Ze ?_
  repeat' first|((with_reducible show V _ _ _ _ _ _);first|refine Z5e hlt rfl rfl ?_|refine Zt [(0, p)] rfl ⟨rfl, trivial⟩ (.inl ⟨rfl, p, rfl, hp⟩)|refine Z1 rfl ?_)|((with_reducible show VO _ _ _ _ _ _ _);first|refine Z6 rfl e1 e2 ?_|refine Z0 rfl ?_|refine Z2 ?_)
 intro N
 induction N with
 |zero=>exact fun l p st hl hp=>stop l p st (by omega) hp
 |succ N ih=>
  intro l p st hl hp
  by_cases hl1:l.length≤1
  ·exact stop l p st hl1 hp
  rcases List.eq_nil_or_concat l with rfl|⟨l0, s, rfl⟩
  ·simp at hl1
  rw [List.concat_eq_append] at *
  have hne:l0≠[]:=by rintro rfl;simp at hl1
  obtain ⟨e1, e2, e3⟩:=hp.len
  have plp:=SL.pl hp
  have hll:(l0++[s]).length=l0.length+1:=by simp
  have hlt:decide ((1:Int)<((l0++[s]).length:Int))=true:=decide_eq_true (by omega)
  have w1:PV.int .i64 (IntKind.i64.wrap (((l0++[s]).length:Int)-1))=PV.int .i64 (l0.length:Int):=Z5m (by rw [Z02];omega)
  obtain ⟨cs, ay, hs⟩:=SL.at hp (j:=l0.length) (s:=s) (by simp)
  obtain ⟨q', hsl, hq'⟩:=sl_take hp (m:=l0.length) (by omega) (by simp)
  rw [List.take_left' rfl] at hq'
  have h6:=hs.len6
  have hone:=hs.one
  rw [Zpx hne]
  cases n with
  |zero=>exact hs.elim
  |succ m=>
  obtain ⟨op, names, nums, preds, vals, subs⟩:=s
  obtain ⟨ho, pa, pb, pc, pd, pe, rfl, h1, h2, h3, h4, h5⟩:=hs
  obtain ⟨g1, g2, g3⟩:=h2.len
  have hio:=Zk9 op
  have trE:trB (.mk op names nums preds vals subs)=(decide (op=24)||Zaz op||(decide (op=26)&&decide (nums.length=1)&&decide (0<nums.headD 0))):=rfl
  have hz:z6.length=6:=rfl
  obtain ⟨S1, hS1⟩:∃S, st.new (.var z6)=S:=⟨_, rfl⟩
  have a1:S1.get st.next=some (.var z6):=by rw [←hS1];exact St.get_new
  obtain ⟨S2, hS2⟩:∃S, S1.put st.next (.var [.int .i64 op, pa, pb, pc, pd, pe])=S:=⟨_, rfl⟩
  have a2:S2.get st.next=some (.var [.int .i64 op, pa, pb, pc, pd, pe]):=by rw [←hS2];exact St.get_put
  have hi:=ih l0 q' S2 (by omega) hq'
  by_cases o24:op=24
  ·have tr:trB (.mk op names nums preds vals subs)=true:=by rw [trE];simp [o24]
   rw [tr, if_pos rfl]
   refine Ze ?_
   repeat' first|((with_reducible show V _ _ _ _ _ _);first|refine Z23 hlt rfl rfl ?_|refine Zbp rfl hi ⟨rfl, trivial⟩|refine Z1 rfl ?_|refine Za rfl rfl ?_)|((with_reducible show VO _ _ _ _ _ _ _);first|refine Z6 rfl e1 e2 ?_|refine Z3 w1 rfl ?_|refine Zh rfl rfl ay ?_|refine Z07 rfl h6 ?_|refine Z0d hS1 rfl ?_|refine Z0l hS2 a1 hone rfl hz rfl rfl rfl ?_|refine Z0 (ldv a2 rfl rfl) ?_|refine Z3 (Z0j o24) rfl ?_|refine Zl7 q' rfl rfl rfl rfl (hsl _) ?_|refine Z0 rfl ?_|refine Z2 ?_|refine Z3t rfl ?_|refine Zj rfl rfl ?_)
  by_cases oo:Zaz op=true
  ·have tr:trB (.mk op names nums preds vals subs)=true:=by rw [trE];simp [oo]
   rw [tr, if_pos rfl]
   rw [oo] at hio
   refine Ze ?_
   repeat' first|((with_reducible show V _ _ _ _ _ _);first|refine Z23 hlt rfl rfl ?_|refine Zbp rfl hi ⟨rfl, trivial⟩|refine Z1 rfl ?_|refine Za rfl rfl ?_)|((with_reducible show VO _ _ _ _ _ _ _);first|refine Z6 rfl e1 e2 ?_|refine Z3 w1 rfl ?_|refine Zh rfl rfl ay ?_|refine Z07 rfl h6 ?_|refine Z0d hS1 rfl ?_|refine Z0l hS2 a1 hone rfl hz rfl rfl rfl ?_|refine Z0 (ldv a2 rfl rfl) ?_|refine Z3 (Z0c o24) rfl ?_|refine Z4 rfl rfl hio ?_|refine Zl7 q' rfl rfl rfl rfl (hsl _) ?_|refine Z0 rfl ?_|refine Z2 ?_|refine Zg rfl ?_|refine Z3t rfl ?_|refine Zj rfl rfl ?_)
  have oo':Zaz op=false:=by simpa using oo
  rw [oo'] at hio
  by_cases o26:op=26
  ·by_cases hn1:nums.length=1
   ·obtain ⟨k, rfl⟩:=List.length_eq_one_iff.1 hn1
    obtain ⟨ck, ak, hk, rfl⟩:=h2.at (sz:=1) (fun _ _ h=>h.len1) (j:=0) (a:=k) rfl
    have d1:=Z0j (p:=(([k]:List Int).length:Int)=1) (by simp)
    by_cases hk0:k<1
    ·have tr:trB (.mk op names [k] preds vals subs)=false:=by rw [trE];simp [oo', o24];omega
     rw [tr, if_neg (by decide)]
     refine Ze ?_
     repeat' first|((with_reducible show V _ _ _ _ _ _);first|refine Z23 hlt rfl rfl ?_|refine Zt [(2, p)] rfl ⟨rfl, trivial⟩ (.inr ⟨rfl, p, rfl, hp⟩)|refine Z1 rfl ?_|refine Z9 rfl rfl ?_)|((with_reducible show VO _ _ _ _ _ _ _);first|refine Z6 rfl e1 e2 ?_|refine Z3 w1 rfl ?_|refine Zh rfl rfl ay ?_|refine Z07 rfl h6 ?_|refine Z0d hS1 rfl ?_|refine Z0l hS2 a1 hone rfl hz rfl rfl rfl ?_|refine Z0 (ldv a2 rfl rfl) ?_|refine Z3 (Z0c o24) rfl ?_|refine Z4 rfl rfl hio ?_|refine Z3 (Z0j o26) rfl ?_|refine Z6 rfl g1 g2 ?_|refine Z3 d1 rfl ?_|refine Zh rfl rfl ak ?_|refine Z3 (Z0f hk0) rfl ?_|refine Z0 rfl ?_|refine Z2 ?_|refine Zg rfl ?_)
    ·have tr:trB (.mk op names [k] preds vals subs)=true:=by rw [trE];simp [o26];omega
     rw [tr, if_pos rfl]
     refine Ze ?_
     repeat' first|((with_reducible show V _ _ _ _ _ _);first|refine Z23 hlt rfl rfl ?_|refine Zbp rfl hi ⟨rfl, trivial⟩|refine Z1 rfl ?_|refine Za rfl rfl ?_)|((with_reducible show VO _ _ _ _ _ _ _);first|refine Z6 rfl e1 e2 ?_|refine Z3 w1 rfl ?_|refine Zh rfl rfl ay ?_|refine Z07 rfl h6 ?_|refine Z0d hS1 rfl ?_|refine Z0l hS2 a1 hone rfl hz rfl rfl rfl ?_|refine Z0 (ldv a2 rfl rfl) ?_|refine Z3 (Z0c o24) rfl ?_|refine Z4 rfl rfl hio ?_|refine Z3 (Z0j o26) rfl ?_|refine Z6 rfl g1 g2 ?_|refine Z3 d1 rfl ?_|refine Zh rfl rfl ak ?_|refine Z3 (Zd hk0) rfl ?_|refine Zl7 q' rfl rfl rfl rfl (hsl _) ?_|refine Z0 rfl ?_|refine Z2 ?_|refine Zg rfl ?_)
   ·have tr:trB (.mk op names nums preds vals subs)=false:=by rw [trE];simp [hn1, oo', o24]
    rw [tr, if_neg (by decide)]
    have d1:=Z0c (p:=(nums.length:Int)=1) (by omega)
    refine Ze ?_
    repeat' first|((with_reducible show V _ _ _ _ _ _);first|refine Z23 hlt rfl rfl ?_|refine Zt [(2, p)] rfl ⟨rfl, trivial⟩ (.inr ⟨rfl, p, rfl, hp⟩)|refine Z1 rfl ?_|refine Z9 rfl rfl ?_)|((with_reducible show VO _ _ _ _ _ _ _);first|refine Z6 rfl e1 e2 ?_|refine Z3 w1 rfl ?_|refine Zh rfl rfl ay ?_|refine Z07 rfl h6 ?_|refine Z0d hS1 rfl ?_|refine Z0l hS2 a1 hone rfl hz rfl rfl rfl ?_|refine Z0 (ldv a2 rfl rfl) ?_|refine Z3 (Z0c o24) rfl ?_|refine Z4 rfl rfl hio ?_|refine Z3 (Z0j o26) rfl ?_|refine Z6 rfl g1 g2 ?_|refine Z3 d1 rfl ?_|refine Z0 rfl ?_|refine Z2 ?_|refine Zg rfl ?_|refine Zj rfl rfl ?_)
  ·have tr:trB (.mk op names nums preds vals subs)=false:=by rw [trE];simp [oo', o24, o26]
   rw [tr, if_neg (by decide)]
   refine Ze ?_
   repeat' first|((with_reducible show V _ _ _ _ _ _);first|refine Z23 hlt rfl rfl ?_|refine Zt [(2, p)] rfl ⟨rfl, trivial⟩ (.inr ⟨rfl, p, rfl, hp⟩)|refine Z1 rfl ?_|refine Z9 rfl rfl ?_)|((with_reducible show VO _ _ _ _ _ _ _);first|refine Z6 rfl e1 e2 ?_|refine Z3 w1 rfl ?_|refine Zh rfl rfl ay ?_|refine Z07 rfl h6 ?_|refine Z0d hS1 rfl ?_|refine Z0l hS2 a1 hone rfl hz rfl rfl rfl ?_|refine Z0 (ldv a2 rfl rfl) ?_|refine Z3 (Z0c o24) rfl ?_|refine Z4 rfl rfl hio ?_|refine Z3 (Z0c o26) rfl ?_|refine Z0 rfl ?_|refine Z2 ?_|refine Zg rfl ?_|refine Zj rfl rfl ?_)
theorem run_rTrim {n:Nat} {l:List Stp} {p:PV} (hp:SL n p l):∃q, T.R (.call Zje [p] q)∧SL n q (trimS l):=by
 have hl:=rtrim_loop l.length l p emptySt (Nat.le_refl _) hp
 refine Z1l rfl rfl ?_
 repeat' first|refine Z0e rfl hl ⟨rfl, trivial⟩ ?_|refine Z1 rfl ?_|refine Z0 rfl ?_|refine Z2 ?_
 rintro x e st' (⟨rfl, q, rfl, hq⟩|⟨rfl, q, rfl, hq⟩)
 ·have plq:=SL.pl hq
  repeat' first|refine Z8i rfl rfl plq.view hq|refine Z1 rfl ?_|refine Z0 rfl ?_|refine Z2 ?_
 ·have plq:=SL.pl hq
  repeat' first|refine Z8i rfl rfl plq.view hq
def okB (s:Stp):Bool:=decide (Zhz [s]=0)
theorem run_Pmay {n:Nat} {l:List Stp} {p:PV} (hp:SL n p l):T.R (.call n_rewrite_may [p] (.bool (!(l.any fun s=>!okB s)))):=by
 have h:T.R (.call Z11 [p, .func Zo3 []] (.bool (l.any fun s=>!okB s))):=
  Z1n (f':=Z1g) (sz:=6) (agg:=true) (val:=.agg) rfl rfl hp (fun _ _ h=>h.len6) (fun _ _ h=>Zjk h.len6 _) (fun _ _ h=>.agg _ h.pl) hp.pl Z1e (fun a _ cs h=>by
   have hc:=h.c6
   have l6:=hc.2.1
   have plc:=hc.1
   have hch:=Zq5 (Z7o h)
   have psa:Pl (.sl [cs] true):=.sl _ _ (by simpa using plc)
   have ba:=fun (look:Nat→Option Tok) (e:EC) (i:Nat) (hi:e.get i=some (.agg cs))=>Z3m (look:=look) hc hi
   unfold okB
   generalize Zhz [a]=k at hch ⊢
   refine Z7 rfl rfl ?_
   repeat' first|refine Z1 rfl ?_|refine Z5 rfl rfl ?_|((with_reducible show VO _ _ _ _ _ _ _);first|refine Zl rfl rfl l6 ?_|refine Z0 (ba _ _ _ rfl) ?_|refine Z4 rfl rfl hch ?_|refine Z0 rfl ?_|refine Zb rfl ?_|refine Z2 ?_)
   rfl)
 have plp:=SL.pl hp
 generalize (l.any fun s=>!okB s)=b at h ⊢
 refine Z7 rfl rfl ?_
 repeat' first|refine Z1 rfl ?_|refine Z5 rfl rfl ?_|((with_reducible show VO _ _ _ _ _ _ _);first|refine Z4 rfl rfl h ?_|refine Z0 rfl ?_|refine Z2 ?_)
 rfl
theorem run_PSimple {n:Nat} {s:Stp} {cs:List PV} (h:SC n s cs):∃cs', T.R (.call Zcs [.agg cs] (.agg cs'))∧SC n (smp s) cs':=by
 have hc:=h.c6
 have l6:=hc.2.1
 have plc:=hc.1
 have one6:=hc.2.2
 have hk:=run_Pmay (Z7o h)
 have psa:Pl (.sl [cs] true):=.sl _ _ (by simpa using plc)
 have ba:=fun (look:Nat→Option Tok) (e:EC) (i:Nat) (hi:e.get i=some (.agg cs))=>Z3m (look:=look) hc hi
 have eb:(!([s].any fun s=>!okB s))=okB s:=by simp
 rw [eb] at hk
 have key:∃r, T.R (.call Zcs [.agg cs] r)∧∃cs', r=.agg cs'∧SC n (smp s) cs':=by
  by_cases hz:Zhz [s]=0
  ·obtain ⟨cx, x1, x2⟩:=Zq0 h (Zea hz)
   have e:smp s=Z5p s:=if_pos hz
   rw [show okB s=true from decide_eq_true hz] at hk
   have xc:=x2.c6
   have xl:=xc.2.1
   have xo:=xc.2.2
   rw [e]
   refine Z1l rfl rfl ?_
   repeat' first|((with_reducible show V _ _ _ _ _ _);first|refine Z8i rfl (resC rfl rfl xl) (Pl.agg _ xc.1).view ⟨cx, rfl, x2⟩|refine Z1 rfl ?_|refine Za rfl rfl ?_)|((with_reducible show VO _ _ _ _ _ _ _);first|refine Zl rfl rfl l6 ?_|refine Z0 (ba _ _ _ rfl) ?_|refine Z4 rfl rfl hk ?_|refine Z4 rfl rfl x1 ?_|refine Z01 rfl rfl xo xl rfl rfl rfl ?_|refine Z0 rfl ?_|refine Zb rfl ?_|refine Z2 ?_)
  ·have e:smp s=s:=if_neg hz
   rw [show okB s=false from decide_eq_false hz] at hk
   rw [e]
   refine Z1l rfl rfl ?_
   repeat' first|((with_reducible show V _ _ _ _ _ _);first|refine Z8i rfl (resC rfl rfl l6) (Pl.agg _ plc).view ⟨cs, rfl, h⟩|refine Z1 rfl ?_|refine Z9 rfl rfl ?_)|((with_reducible show VO _ _ _ _ _ _ _);first|refine Zl rfl rfl l6 ?_|refine Z0 (ba _ _ _ rfl) ?_|refine Z4 rfl rfl hk ?_|refine Z01 rfl rfl one6 l6 rfl rfl rfl ?_|refine Z0 rfl ?_|refine Zb rfl ?_|refine Z2 ?_)
 obtain ⟨r, r1, cs', rfl, r2⟩:=key
 exact ⟨cs', r1, r2⟩
theorem sl_two {n:Nat} {s t:Stp} {cs ct:List PV} (h:SC n s cs) (k:SC n t ct):SL n (.sl [cs, ct] true) [s, t]:=.inr ⟨_, true, rfl, by simp, rfl, fun j a ds h1 h2=>by
 match j with
 |0=>simp at h1 h2;subst h1 h2;exact h
 |1=>simp at h1 h2;subst h1 h2;exact k
 |j+2=>simp at h1⟩
theorem buildSl2 {cs ct:List PV} (hc:C6 cs) (hd:C6 ct) {look:Nat→Option Tok} {e:EC} {i j:Nat} (hi:e.get i=some (.agg cs)) (hj:e.get j=some (.agg ct)):Zr look e (.buildSl 6 [[.int .i64 0, .nilSl, .nilSl, .nilSl, .nilSl, .nilSl], [.int .i64 0, .nilSl, .nilSl, .nilSl, .nilSl, .nilSl]] [(0, .t i), (1, .t j)])=some (.sl [cs, ct] true):=by
 simp only [Zr, Z5q, Zmp, Opd.get, hi, hj]
 simp [Z1u, Z10, PV.cells, PV.isJunk, hc.2.1, hd.2.1]
theorem run_PPair {n:Nat} {a b:Stp} {ca cb:List PV} (ha:SC (n+1) a ca) (hb:SC (n+1) b cb):∃cs, T.R (.call Zas [.agg ca, .agg cb] (.tuple [.agg cs, .bool (prp a b).isSome]))∧SC (n+1) ((prp a b).getD zS) cs:=by
 have hca:=ha.c6
 have hcb:=hb.c6
 have la:=ha.len6
 have lb:=hb.len6
 have plca:=ha.pl
 have plcb:=hb.pl
 have hk:=run_Pmay (sl_two ha hb)
 have psa:Pl (.sl [ca, cb] true):=.sl _ _ (by simp;exact ⟨plca, plcb⟩)
 have ba:=fun (look:Nat→Option Tok) (e:EC) (i j:Nat) (hi:e.get i=some (.agg ca)) (hj:e.get j=some (.agg cb))=>buildSl2 (look:=look) hca hcb hi hj
 have eb:(!([a, b].any fun s=>!okB s))=(okB a&&okB b):=by simp
 rw [eb] at hk
 have zo:=(sc_z n).one
 have key:∃r, T.R (.call Zas [.agg ca, .agg cb] r)∧∃cs, r=.tuple [.agg cs, .bool (prp a b).isSome]∧SC (n+1) ((prp a b).getD zS) cs:=by
  by_cases h12:Zhz [a]=0∧Zhz [b]=0
  ·have e:prp a b=Z9z a b:=if_pos h12
   rw [show (okB a&&okB b)=true from by rw [Bool.and_eq_true];exact ⟨decide_eq_true h12.1, decide_eq_true h12.2⟩] at hk
   rw [e]
   obtain ⟨cx, x1, x2, xc⟩:=run_join ha hb (Zea h12.1) (Zea h12.2)
   have xl:=xc.2.1
   have xo:=xc.2.2
   have plx:=xc.1
   cases hj:Z9z a b with
   |none=>
    rw [hj] at x1
    have x1':T.R (.call Z2t [.agg ca, .agg cb] (.tuple [.agg cx, .bool false])):=x1
    refine Z1l rfl rfl ?_
    repeat' first|((with_reducible show V _ _ _ _ _ _);first|refine Z8i rfl (resC2 (cs:=z6) rfl rfl rfl rfl) (Pl.tuple _ (Z0b (Pl.agg _ z6_pl) (Z0b (.bool _) Z1e))).view ⟨z6, rfl, sc_z n⟩|refine Z1 rfl ?_|refine Z9 rfl rfl ?_|refine Za rfl rfl ?_)|((with_reducible show VO _ _ _ _ _ _ _);first|refine Zl rfl rfl la ?_|refine Zl rfl rfl lb ?_|refine Z0 (ba _ _ _ _ rfl rfl) ?_|refine Z4 rfl rfl hk ?_|refine Z4 rfl rfl x1' ?_|refine Z01 rfl rfl xo xl rfl rfl rfl ?_|refine Z0 rfl ?_|refine Zb rfl ?_|refine Z2 ?_)
   |some x=>
    rw [hj] at x1
    have hx:=x2 x hj
    have x1':T.R (.call Z2t [.agg ca, .agg cb] (.tuple [.agg cx, .bool true])):=x1
    refine Z1l rfl rfl ?_
    repeat' first|((with_reducible show V _ _ _ _ _ _);first|refine Z8i rfl (resC2 rfl rfl xl rfl) (Pl.tuple _ (Z0b (Pl.agg _ plx) (Z0b (.bool _) Z1e))).view ⟨cx, rfl, hx⟩|refine Z1 rfl ?_|refine Z9 rfl rfl ?_)|((with_reducible show VO _ _ _ _ _ _ _);first|refine Zl rfl rfl la ?_|refine Zl rfl rfl lb ?_|refine Zl rfl rfl xl ?_|refine Z0 (ba _ _ _ _ rfl rfl) ?_|refine Z4 rfl rfl hk ?_|refine Z4 rfl rfl x1' ?_|refine Z01 rfl rfl xo xl rfl rfl rfl ?_|refine Z0 rfl ?_|refine Zb rfl ?_|refine Z2 ?_)
  ·have e:prp a b=none:=if_neg h12
   rw [show (okB a&&okB b)=false from by
    rw [Bool.and_eq_false_iff]
    by_cases h1:Zhz [a]=0
    ·exact .inr (decide_eq_false fun h2=>h12 ⟨h1, h2⟩)
    ·exact .inl (decide_eq_false h1)] at hk
   rw [e]
   refine Z1l rfl rfl ?_
   repeat' first|((with_reducible show V _ _ _ _ _ _);first|refine Z8i rfl (resC2 (cs:=z6) rfl rfl rfl rfl) (Pl.tuple _ (Z0b (Pl.agg _ z6_pl) (Z0b (.bool _) Z1e))).view ⟨z6, rfl, sc_z n⟩|refine Z1 rfl ?_|refine Za rfl rfl ?_)|((with_reducible show VO _ _ _ _ _ _ _);first|refine Zl rfl rfl la ?_|refine Zl rfl rfl lb ?_|refine Z0 (ba _ _ _ _ rfl rfl) ?_|refine Z4 rfl rfl hk ?_|refine Z0 rfl ?_|refine Zb rfl ?_|refine Z2 ?_)
 obtain ⟨r, r1, cs, rfl, r2⟩:=key
 exact ⟨cs, r1, r2⟩
theorem Zq7 {cs:List PV} (h:C6 cs):Pl (.sl [cs] true):=.sl _ _ (by simpa using h.1)
set_option maxHeartbeats 8000000 in
theorem run_Rules {n:Nat} {s t:Stp} {cs ct:List PV} {l:List Stp} {p:PV} (hs:SC (n+1) s cs) (ht:SC (n+1) t ct) (hp:SL (n+1) p l):T.R (.call Z3o [.agg cs, .agg ct, p] (.bool true)):=by
 have plp:=SL.pl hp
 have hbg:=run_begun
 obtain ⟨b1, f1⟩:=run_few (n+1) [s] _ 1 (Z7o hs)
 obtain ⟨b2, f2⟩:=run_few (n+1) [t] _ 1 (Z7o ht)
 obtain ⟨b3, f3⟩:=run_few (n+1) l p 1 hp
 obtain ⟨cx, x1, x2⟩:=run_PPair hs ht
 obtain ⟨cy, y1, y2⟩:=run_rPair hs ht
 obtain ⟨c1, p1, p2⟩:=run_PSimple hs
 obtain ⟨c2, q1, q2⟩:=run_rSimple hs
 obtain ⟨t1, u1, u2⟩:=run_Trim hp
 obtain ⟨t2, v1, v2⟩:=run_rTrim hp
 have s1:=Znf (n+1) [smp s] _ _ (Z7o p2) (Z7o q2)
 have s2:=Znf (n+1) [(prp s t).getD zS] _ _ (Z7o x2) (Z7o y2)
 have s3:=Znf (n+1) (trimS l) t1 t2 u2 v2
 have os:=Zka hs.c6
 have ot:=Zka ht.c6
 have o1:=Zka p2.c6
 have o2:=Zka q2.c6
 have ox:=Zka x2.c6
 have oy:=Zka y2.c6
 have ws:=Zq7 hs.c6
 have wt:=Zq7 ht.c6
 have w1:=Zq7 p2.c6
 have w2:=Zq7 q2.c6
 have wx:=Zq7 x2.c6
 have wy:=Zq7 y2.c6
 have plt1:=SL.pl u2
 have plt2:=SL.pl v2
 obtain ⟨plcs, ls, _⟩:=hs.c6
 obtain ⟨plct, lt, _⟩:=ht.c6
 obtain ⟨plc1, l1, _⟩:=p2.c6
 obtain ⟨plc2, l2, _⟩:=q2.c6
 obtain ⟨plcx, lx, nx⟩:=x2.c6
 obtain ⟨plcy, ly, ny⟩:=y2.c6
 clear hs ht hp x2 y2 p2 q2 u2 v2
 generalize (prp s t).isSome=b at x1 y1
 have fin:∀b:Bool, T.R (.call Zas [.agg cs, .agg ct] (.tuple [.agg cx, .bool b]))→T.R (.call Z4u [.agg cs, .agg ct] (.tuple [.agg cy, .bool b]))→T.R (.call Z3o [.agg cs, .agg ct, p] (.bool true)):=by
  intro b x1 y1
  cases b1 with
  |false=>
   refine Z7 rfl rfl ?_
   repeat' first|((with_reducible show V _ _ _ _ _ _);first|refine Z1 rfl ?_|refine Z9 rfl rfl ?_|refine Z5 rfl rfl ?_)|((with_reducible show VO _ _ _ _ _ _ _);first|refine Zl rfl rfl ls ?_|refine Z4 rfl rfl os ?_|refine Z4 rfl rfl f1 ?_|refine Z0 rfl ?_|refine Zb rfl ?_|refine Z2 ?_|refine Zj rfl rfl ?_)
   rfl
  |true=>
   cases b2 with
   |false=>
    refine Z7 rfl rfl ?_
    repeat' first|((with_reducible show V _ _ _ _ _ _);first|refine Z1 rfl ?_|refine Z9 rfl rfl ?_|refine Z5 rfl rfl ?_)|((with_reducible show VO _ _ _ _ _ _ _);first|refine Zl rfl rfl ls ?_|refine Zl rfl rfl lt ?_|refine Z4 rfl rfl os ?_|refine Z4 rfl rfl ot ?_|refine Z4 rfl rfl f1 ?_|refine Z4 rfl rfl f2 ?_|refine Z0 rfl ?_|refine Zb rfl ?_|refine Z2 ?_|refine Zg rfl ?_|refine Zj rfl rfl ?_)
    rfl
   |true=>
    cases b3 with
    |false=>
     refine Z7 rfl rfl ?_
     repeat' first|((with_reducible show V _ _ _ _ _ _);first|refine Z1 rfl ?_|refine Z9 rfl rfl ?_|refine Z5 rfl rfl ?_)|((with_reducible show VO _ _ _ _ _ _ _);first|refine Zl rfl rfl ls ?_|refine Zl rfl rfl lt ?_|refine Z4 rfl rfl os ?_|refine Z4 rfl rfl ot ?_|refine Z4 rfl rfl f1 ?_|refine Z4 rfl rfl f2 ?_|refine Z4 rfl rfl f3 ?_|refine Z0 rfl ?_|refine Zb rfl ?_|refine Z2 ?_|refine Zg rfl ?_)
     rfl
    |true=>
     cases b<;>
     ·refine Z7 rfl rfl ?_
      repeat' first|((with_reducible show V _ _ _ _ _ _);first|refine Z1 rfl ?_|refine Za rfl rfl ?_|refine Z5 rfl rfl ?_|refine V_D rfl ?_)|((with_reducible show VO _ _ _ _ _ _ _);first|refine Zl rfl rfl ls ?_|refine Zl rfl rfl lt ?_|refine Z4 rfl rfl os ?_|refine Z4 rfl rfl ot ?_|refine Z4 rfl rfl f1 ?_|refine Z4 rfl rfl f2 ?_|refine Z4 rfl rfl f3 ?_|refine Z4 rfl rfl x1 ?_|refine Z4 rfl rfl y1 ?_|refine Z01 rfl rfl nx lx rfl rfl rfl ?_|refine Z01 rfl rfl ny ly rfl rfl rfl ?_|refine Z0 rfl ?_|refine Zb rfl ?_|refine Z2 ?_|refine Zg rfl ?_)|((with_reducible show VD _ _ _ _ _ _ _);first|refine Zn (ld_q rfl (loadC rfl ls)) ?_|refine Zn (ld_q rfl (loadC rfl lx)) ?_|refine Zn (ld_q rfl (loadC rfl ly)) ?_|refine Zdo rfl rfl hbg ?_|refine Zdo rfl rfl p1 ?_|refine Zdo rfl rfl q1 ?_|refine Zdo rfl rfl o1 ?_|refine Zdo rfl rfl o2 ?_|refine Zdo rfl rfl ox ?_|refine Zdo rfl rfl oy ?_|refine Zdo rfl rfl s1 ?_|refine Zdo rfl rfl s2 ?_|refine Zdo rfl rfl s3 ?_|refine Zdo rfl rfl u1 ?_|refine Zdo rfl rfl v1 ?_|refine Zn rfl ?_|refine Z08 ?_|refine Zce rfl ?_)
      rfl
 exact fin b x1 y1
end Go.Proofs.YtnedeokclnbcpaaGreatDoor
