/- rambleref20.pair: two steps as one. · The reference's ok, Simple, Pair, Trim (rambleref20); rewrite.may, Simple, Pair; the statement's one. · Copies by the reference: rambleref10.CloneValue, rambleref16.cloneAll. -/
import Derived.Test.YtnedeokclnbcpaaGreatDoorRwPToRwA
import Derived.Test.YtnedeokclnbcpaaGreatDoorRwEToRwH
import Derived.Test.YtnedeokclnbcpaaGreatDoorRfBToRfC
import Derived.Test.YtnedeokclnbcpaaGreatDoorRwUToRwY
import Derived.Test.YtnedeokclnbcpaaGreatDoorNameBToStpF
import Derived.Test.YtnedeokclnbcpaaGreatDoorRwIToRwM
import Derived.Test.YtnedeokclnbcpaaGreatDoorRwZToRfA
set_option linter.unusedVariables false
set_option linter.unusedSimpArgs false
namespace Go.Proofs.YtnedeokclnbcpaaGreatDoor
open Go Go.AM Go.RowKit
abbrev zS:Stp:=Zj 0 []
theorem sc_z (n:Nat):SC (n+1) zS z6:=Z3b (by simp [Zn]) (.inl ⟨rfl, rfl⟩)
theorem pairS_mk (oa:Int) (an:List (List UInt8)) (au:List Int) (ap:List Prd) (av:List Val) (az:List (List Stp)) (ob:Int) (bn:List (List UInt8)) (bu:List Int) (bp:List Prd) (bv:List Val) (bs:List (List Stp)):pairS (.mk oa an au ap av az) (.mk ob bn bu bp bv bs)=if oa=24∧ob=24 then some (.mk ob bn bu bp bv bs) else if oa=26∧ob=26 then some (limS (min2 (au.headD 0) (bu.headD 0))) else if oa=27∧ob=27∧au.headD 0≤9007199254740992-bu.headD 0 then some (skS (au.headD 0+bu.headD 0)) else if Zbc oa=true∧(Zbc ob=true∨ob=35) then some (.mk ob bn bu bp bv bs) else if (Zic (.mk oa an au ap av az)&&eqSB (.mk oa an au ap av az) (.mk ob bn bu bp bv bs))=true then some (.mk oa an au ap av az) else none:=by
 unfold pairS
 rfl
def PairR (n:Nat) (ca cb:List PV) (r:Option Stp):Prop:=∃cs, T.R (.call Z53 [.agg ca, .agg cb] (.tuple [.agg cs, .bool r.isSome]))∧SC n (r.getD zS) cs
set_option maxRecDepth 20000 in
set_option maxHeartbeats 8000000 in
theorem run_pair {n:Nat} {a b:Stp} {ca cb:List PV} (ha:SC n a ca) (hb:SC n b cb) (oka:okS a=true) (okb:okS b=true):PairR n ca cb (pairS a b):=by
 have ona:=ha.one
 have onb:=hb.one
 have pla:=ha.pl
 have plb:=hb.pl
 have ha0:=ha
 have hb0:=hb
 have htw:=run_twice ha
 have hsm:=run_rSameD n [a] [b] _ _ (Zlm ha) (Zlm hb)
 rw [eqD_one] at hsm
 have ba:=fun (look:Nat→Option Tok) (e:EC) (i:Nat) (hi:e.get i=some (.agg ca))=>Z49 (look:=look) ha.c6 hi
 have bb:=fun (look:Nat→Option Tok) (e:EC) (i:Nat) (hi:e.get i=some (.agg cb))=>Z49 (look:=look) hb.c6 hi
 have psa:Pl (.sl [ca] true):=.sl _ _ (by simpa using pla)
 have psb:Pl (.sl [cb] true):=.sl _ _ (by simpa using plb)
 have hnx:=fun h=>Zb0 oka h
 have hny:=fun h=>Zb0 okb h
 cases n with
 |zero=>exact ha.elim
 |succ m=>
 have zc:=sc_z m
 have zone:=zc.one
 obtain ⟨oa, an, au, ap, av, az⟩:=a
 obtain ⟨ob, bn, bu, bp, bv, bs⟩:=b
 rw [pairS_mk]
 generalize Zic (Stp.mk oa an au ap av az)=fa at htw ⊢
 generalize eqSB (Stp.mk oa an au ap av az) (Stp.mk ob bn bu bp bv bs)=eb at hsm ⊢
 obtain ⟨ioa, a1, a2, a3, a4, a5, rfl, _, hau, _⟩:=ha
 obtain ⟨iob, b1, b2, b3, b4, b5, rfl, _, hbu, _⟩:=hb
 obtain ⟨px0, px1, px2, px3, px4, px5⟩:=pl6 pla
 obtain ⟨py0, py1, py2, py3, py4, py5⟩:=pl6 plb
 have hoa:=Zko oa
 have hob:=Zko ob
 simp only [Stp.op, Stp.nums] at hnx hny ⊢
 by_cases c24:oa=24∧ob=24
 ·rw [if_pos c24]
  obtain ⟨rfl, rfl⟩:=c24
  refine ⟨_, ?_, hb0⟩
  refine Z7 rfl rfl ?_
  repeat' first|((with_reducible show V _ _ _ _ _ _);first|refine Z1 rfl ?_|refine Za rfl rfl ?_|refine Z6 rfl rfl ?_)|((with_reducible show VO _ _ _ _ _ _ _);first|refine Zt rfl rfl rfl ?_|refine Z03 rfl rfl onb rfl rfl rfl rfl ?_|refine Z0 rfl ?_|refine Zc rfl ?_|refine Z2 ?_|refine Zh rfl ?_)
  rfl
 rw [if_neg c24]
 by_cases c26:oa=26∧ob=26
 ·rw [if_pos c26]
  obtain ⟨rfl, rfl⟩:=c26
  obtain ⟨x, rfl, nx⟩:=hnx (.inl rfl)
  obtain ⟨y, rfl, ny⟩:=hny (.inl rfl)
  obtain ⟨cx, ax, ix, rfl⟩:=hau.at (sz:=1) (fun _ _ h=>h.len1) (j:=0) (a:=x) rfl
  obtain ⟨cy, ay, iy, rfl⟩:=hbu.at (sz:=1) (fun _ _ h=>h.len1) (j:=0) (a:=y) rfl
  have ixy:Zn (min2 x y):=by unfold min2;split<;>assumption
  have hl:=Z6r (n:=m) (op:=26) (k:=min2 x y) (by simp [Zn]) ixy
  have o6:∀c∈limC (min2 x y), PV.one c=true:=hl.one
  refine ⟨limC (min2 x y), ?_, hl⟩
  refine Z7 rfl rfl ?_
  repeat' first|((with_reducible show V _ _ _ _ _ _);first|refine V_M (l:=[_, _, _, _, _, _, _, _, _, _, _, ⟨none, none, .store 6 _ _⟩, _]) 11 (st3 [.int .i64 26, a1, a2, a3, a4, a5] [.int .i64 26, b1, b2, b3, b4, b5] (limC (min2 x y))) rfl ?_|refine Z1 rfl ?_|refine Za rfl rfl ?_|refine Z9 rfl rfl ?_|refine Z6 rfl rfl ?_)|((with_reducible show VO _ _ _ _ _ _ _);first|refine Z0 rfl ?_|refine Zc rfl ?_|refine Z2 ?_|refine Zh rfl ?_|refine Zk rfl rfl ?_)|((with_reducible show VM _ _ _ _ _ _ _ _ _ _ _);first|refine Z1n rfl (.inl rfl) (Z0x ax rfl rfl) (Z0x ax rfl rfl) ?_|refine Z1n rfl (.inl rfl) (Z0x ay rfl rfl) (Z0x ay rfl rfl) ?_|refine Zh1 rfl (Zll o6) ?_|refine Z1n rfl (.inl rfl) rfl rfl ?_|refine Z1n rfl (.inr rfl) rfl rfl ?_|refine Zqa ?_)
  rfl
 rw [if_neg c26]
 by_cases c27:oa=27∧ob=27∧au.headD 0≤9007199254740992-bu.headD 0
 ·rw [if_pos c27]
  obtain ⟨rfl, rfl, hle⟩:=c27
  obtain ⟨x, rfl, nx⟩:=hnx (.inr (.inl rfl))
  obtain ⟨y, rfl, ny⟩:=hny (.inr (.inl rfl))
  have nx':=Zep nx
  have ny':=Zep ny
  have hle:x≤9007199254740992-y:=hle
  obtain ⟨cx, ax, ix, rfl⟩:=hau.at (sz:=1) (fun _ _ h=>h.len1) (j:=0) (a:=x) rfl
  obtain ⟨cy, ay, iy, rfl⟩:=hbu.at (sz:=1) (fun _ _ h=>h.len1) (j:=0) (a:=y) rfl
  have ixy:Zn (x+y):=by unfold Zn;omega
  have hl:=Z6r (n:=m) (op:=27) (k:=x+y) (by simp [Zn]) ixy
  have o6:=hl.one
  have e1:PV.int .i64 (IntKind.i64.wrap (x+y))=PV.int .i64 (x+y):=Z5e (Zh3 ixy)
  have e2:PV.int .i64 (IntKind.i64.wrap (9007199254740992-y))=PV.int .i64 (9007199254740992-y):=Z5e (Zh3 (by unfold Zn;omega))
  have d1:=Z0f hle
  refine ⟨_, ?_, hl⟩
  refine Z7 rfl rfl ?_
  repeat' first|((with_reducible show V _ _ _ _ _ _);first|refine V_M (l:=[_, _, _, _, _, _, _, _, _, _, _, ⟨none, none, .store 6 _ _⟩, _]) 11 (st3 [.int .i64 27, a1, a2, a3, a4, a5] [.int .i64 27, b1, b2, b3, b4, b5] [.int .i64 27, .nilSl, .sl [[.int .i64 (x+y)]] true, .nilSl, .nilSl, .nilSl]) rfl ?_|refine Z1 rfl ?_|refine Za rfl rfl ?_|refine Z9 rfl rfl ?_|refine Z6 rfl rfl ?_|refine V_D rfl ?_)|((with_reducible show VO _ _ _ _ _ _ _);first|refine Z0 rfl ?_|refine Zc rfl ?_|refine Z2 ?_|refine Zk rfl rfl ?_)|((with_reducible show VD _ _ _ _ _ _ _);first|refine Z40 rfl rfl ax ?_|refine Z40 rfl rfl ay ?_|refine Zfs e2 rfl ?_|refine Zfs d1 rfl ?_|refine Zo rfl ?_|refine Z0a ?_|refine Ze6 rfl ?_)|((with_reducible show VM _ _ _ _ _ _ _ _ _ _ _);first|refine Z1n rfl (.inl rfl) (Z0x ax rfl rfl) (Z0x ax rfl rfl) ?_|refine Z1n rfl (.inl rfl) (Z0x ay rfl rfl) (Z0x ay rfl rfl) ?_|refine M_is e1 rfl (.inl rfl) rfl rfl ?_|refine Zh1 rfl (Zll o6) ?_|refine Z1n rfl (.inl rfl) rfl rfl ?_|refine Z1n rfl (.inr rfl) rfl rfl ?_|refine Zqa ?_)
  rfl
 rw [if_neg c27]
 by_cases d24:oa=24
 ·have n24:¬ob=24:=fun h=>c24 ⟨d24, h⟩
  subst d24
  have ho:T.R (.call Z1a [.int .i64 24] (.bool false)):=hoa
  rw [if_neg (show ¬(Zbc 24=true∧(Zbc ob=true∨ob=35)) from fun h=>by cases h.1)]
  cases fa with
  |false=>
   rw [Bool.false_and, if_neg (by decide)]
   refine ⟨z6, ?_, zc⟩
   refine Z7 rfl rfl ?_
   repeat' first|((with_reducible show V _ _ _ _ _ _);first|refine Z1 rfl ?_|refine Z9 rfl rfl ?_|refine Z6 rfl rfl ?_|refine V_D rfl ?_)|((with_reducible show VO _ _ _ _ _ _ _);first|refine Z3 (Zb n24) rfl ?_|refine Z5 rfl rfl ho ?_|refine Z5 rfl rfl htw ?_|refine Zt rfl rfl rfl ?_|refine Z0 rfl ?_|refine Zc rfl ?_|refine Z2 ?_|refine Zh rfl ?_|refine Z3x rfl ?_|refine Zk rfl rfl ?_)|((with_reducible show VD _ _ _ _ _ _ _);first|refine Zo rfl ?_|refine Z0a ?_|refine Z7h rfl rfl ?_)
   rfl
  |true=>
   cases eb with
   |true=>
    rw [Bool.true_and, if_pos rfl]
    refine ⟨_, ?_, ha0⟩
    refine Z7 rfl rfl ?_
    repeat' first|((with_reducible show V _ _ _ _ _ _);first|refine Z1 rfl ?_|refine Za rfl rfl ?_|refine Z9 rfl rfl ?_|refine Z6 rfl rfl ?_|refine V_D rfl ?_)|((with_reducible show VO _ _ _ _ _ _ _);first|refine Z3 (Zb n24) rfl ?_|refine Z0 (ba _ _ _ rfl) ?_|refine Z0 (bb _ _ _ rfl) ?_|refine Z5 rfl rfl ho ?_|refine Z5 rfl rfl htw ?_|refine Z5 rfl rfl hsm ?_|refine Zt rfl rfl rfl ?_|refine Z03 rfl rfl ona rfl rfl rfl rfl ?_|refine Z0 rfl ?_|refine Zc rfl ?_|refine Z2 ?_|refine Zh rfl ?_|refine Z3x rfl ?_|refine Zk rfl rfl ?_)|((with_reducible show VD _ _ _ _ _ _ _);first|refine Zo rfl ?_|refine Z0a ?_|refine Z7h rfl rfl ?_)
    rfl
   |false=>
    rw [Bool.true_and, if_neg (by decide)]
    refine ⟨z6, ?_, zc⟩
    refine Z7 rfl rfl ?_
    repeat' first|((with_reducible show V _ _ _ _ _ _);first|refine Z1 rfl ?_|refine Z9 rfl rfl ?_|refine Z6 rfl rfl ?_|refine V_D rfl ?_)|((with_reducible show VO _ _ _ _ _ _ _);first|refine Z3 (Zb n24) rfl ?_|refine Z0 (ba _ _ _ rfl) ?_|refine Z0 (bb _ _ _ rfl) ?_|refine Z5 rfl rfl ho ?_|refine Z5 rfl rfl htw ?_|refine Z5 rfl rfl hsm ?_|refine Zt rfl rfl rfl ?_|refine Z0 rfl ?_|refine Zc rfl ?_|refine Z2 ?_|refine Zh rfl ?_|refine Z3x rfl ?_|refine Zk rfl rfl ?_)|((with_reducible show VD _ _ _ _ _ _ _);first|refine Zo rfl ?_|refine Z0a ?_|refine Z7h rfl rfl ?_)
    rfl
 by_cases d26:oa=26
 ·have n26:¬ob=26:=fun h=>c26 ⟨d26, h⟩
  subst d26
  have ho:T.R (.call Z1a [.int .i64 26] (.bool false)):=hoa
  rw [if_neg (show ¬(Zbc 26=true∧(Zbc ob=true∨ob=35)) from fun h=>by cases h.1)]
  cases fa with
  |false=>
   rw [Bool.false_and, if_neg (by decide)]
   refine ⟨z6, ?_, zc⟩
   refine Z7 rfl rfl ?_
   repeat' first|((with_reducible show V _ _ _ _ _ _);first|refine Z1 rfl ?_|refine Z9 rfl rfl ?_|refine Z6 rfl rfl ?_|refine V_D rfl ?_)|((with_reducible show VO _ _ _ _ _ _ _);first|refine Z3 (Zb n26) rfl ?_|refine Z5 rfl rfl ho ?_|refine Z5 rfl rfl htw ?_|refine Zt rfl rfl rfl ?_|refine Z0 rfl ?_|refine Zc rfl ?_|refine Z2 ?_|refine Zh rfl ?_|refine Z3x rfl ?_|refine Zk rfl rfl ?_)|((with_reducible show VD _ _ _ _ _ _ _);first|refine Zo rfl ?_|refine Z0a ?_|refine Z7h rfl rfl ?_)
   rfl
  |true=>
   cases eb with
   |true=>
    rw [Bool.true_and, if_pos rfl]
    refine ⟨_, ?_, ha0⟩
    refine Z7 rfl rfl ?_
    repeat' first|((with_reducible show V _ _ _ _ _ _);first|refine Z1 rfl ?_|refine Za rfl rfl ?_|refine Z9 rfl rfl ?_|refine Z6 rfl rfl ?_|refine V_D rfl ?_)|((with_reducible show VO _ _ _ _ _ _ _);first|refine Z3 (Zb n26) rfl ?_|refine Z0 (ba _ _ _ rfl) ?_|refine Z0 (bb _ _ _ rfl) ?_|refine Z5 rfl rfl ho ?_|refine Z5 rfl rfl htw ?_|refine Z5 rfl rfl hsm ?_|refine Zt rfl rfl rfl ?_|refine Z03 rfl rfl ona rfl rfl rfl rfl ?_|refine Z0 rfl ?_|refine Zc rfl ?_|refine Z2 ?_|refine Zh rfl ?_|refine Z3x rfl ?_|refine Zk rfl rfl ?_)|((with_reducible show VD _ _ _ _ _ _ _);first|refine Zo rfl ?_|refine Z0a ?_|refine Z7h rfl rfl ?_)
    rfl
   |false=>
    rw [Bool.true_and, if_neg (by decide)]
    refine ⟨z6, ?_, zc⟩
    refine Z7 rfl rfl ?_
    repeat' first|((with_reducible show V _ _ _ _ _ _);first|refine Z1 rfl ?_|refine Z9 rfl rfl ?_|refine Z6 rfl rfl ?_|refine V_D rfl ?_)|((with_reducible show VO _ _ _ _ _ _ _);first|refine Z3 (Zb n26) rfl ?_|refine Z0 (ba _ _ _ rfl) ?_|refine Z0 (bb _ _ _ rfl) ?_|refine Z5 rfl rfl ho ?_|refine Z5 rfl rfl htw ?_|refine Z5 rfl rfl hsm ?_|refine Zt rfl rfl rfl ?_|refine Z0 rfl ?_|refine Zc rfl ?_|refine Z2 ?_|refine Zh rfl ?_|refine Z3x rfl ?_|refine Zk rfl rfl ?_)|((with_reducible show VD _ _ _ _ _ _ _);first|refine Zo rfl ?_|refine Z0a ?_|refine Z7h rfl rfl ?_)
    rfl
 by_cases d27:oa=27
 ·by_cases b27:ob=27
  ·have nle:=fun h=>c27 ⟨d27, b27, h⟩
   subst d27 b27
   obtain ⟨x, rfl, nx⟩:=hnx (.inr (.inl rfl))
   obtain ⟨y, rfl, ny⟩:=hny (.inr (.inl rfl))
   have nx':=Zep nx
   have ny':=Zep ny
   obtain ⟨cx, ax, ix, rfl⟩:=hau.at (sz:=1) (fun _ _ h=>h.len1) (j:=0) (a:=x) rfl
   obtain ⟨cy, ay, iy, rfl⟩:=hbu.at (sz:=1) (fun _ _ h=>h.len1) (j:=0) (a:=y) rfl
   have e2:PV.int .i64 (IntKind.i64.wrap (9007199254740992-y))=PV.int .i64 (9007199254740992-y):=Z5e (Zh3 (by unfold Zn;omega))
   have nle':¬x≤9007199254740992-y:=nle
   have d1:=Zb nle'
   have ho:T.R (.call Z1a [.int .i64 27] (.bool false)):=hoa
   rw [if_neg (show ¬(Zbc 27=true∧(Zbc 27=true∨(27:Int)=35)) from fun h=>by cases h.1)]
   cases fa with
   |false=>
    rw [Bool.false_and, if_neg (by decide)]
    refine ⟨z6, ?_, zc⟩
    refine Z7 rfl rfl ?_
    repeat' first|((with_reducible show V _ _ _ _ _ _);first|refine Z1 rfl ?_|refine Z9 rfl rfl ?_|refine Z6 rfl rfl ?_|refine V_D rfl ?_)|((with_reducible show VO _ _ _ _ _ _ _);first|refine Z5 rfl rfl ho ?_|refine Z5 rfl rfl htw ?_|refine Zt rfl rfl rfl ?_|refine Z0 rfl ?_|refine Zc rfl ?_|refine Z2 ?_|refine Z3x rfl ?_|refine Zk rfl rfl ?_)|((with_reducible show VD _ _ _ _ _ _ _);first|refine Z40 rfl rfl ax ?_|refine Z40 rfl rfl ay ?_|refine Zfs e2 rfl ?_|refine Zfs d1 rfl ?_|refine Zo rfl ?_|refine Z0a ?_|refine Ze6 rfl ?_)
    rfl
   |true=>
    cases eb with
    |true=>
     rw [Bool.true_and, if_pos rfl]
     refine ⟨_, ?_, ha0⟩
     refine Z7 rfl rfl ?_
     repeat' first|((with_reducible show V _ _ _ _ _ _);first|refine Z1 rfl ?_|refine Za rfl rfl ?_|refine Z9 rfl rfl ?_|refine Z6 rfl rfl ?_|refine V_D rfl ?_)|((with_reducible show VO _ _ _ _ _ _ _);first|refine Z0 (ba _ _ _ rfl) ?_|refine Z0 (bb _ _ _ rfl) ?_|refine Z5 rfl rfl ho ?_|refine Z5 rfl rfl htw ?_|refine Z5 rfl rfl hsm ?_|refine Zt rfl rfl rfl ?_|refine Z03 rfl rfl ona rfl rfl rfl rfl ?_|refine Z0 rfl ?_|refine Zc rfl ?_|refine Z2 ?_|refine Zh rfl ?_|refine Z3x rfl ?_|refine Zk rfl rfl ?_)|((with_reducible show VD _ _ _ _ _ _ _);first|refine Z40 rfl rfl ax ?_|refine Z40 rfl rfl ay ?_|refine Zfs e2 rfl ?_|refine Zfs d1 rfl ?_|refine Zo rfl ?_|refine Z0a ?_|refine Ze6 rfl ?_)
     rfl
    |false=>
     rw [Bool.true_and, if_neg (by decide)]
     refine ⟨z6, ?_, zc⟩
     refine Z7 rfl rfl ?_
     repeat' first|((with_reducible show V _ _ _ _ _ _);first|refine Z1 rfl ?_|refine Z9 rfl rfl ?_|refine Z6 rfl rfl ?_|refine V_D rfl ?_)|((with_reducible show VO _ _ _ _ _ _ _);first|refine Z0 (ba _ _ _ rfl) ?_|refine Z0 (bb _ _ _ rfl) ?_|refine Z5 rfl rfl ho ?_|refine Z5 rfl rfl htw ?_|refine Z5 rfl rfl hsm ?_|refine Zt rfl rfl rfl ?_|refine Z0 rfl ?_|refine Zc rfl ?_|refine Z2 ?_|refine Zh rfl ?_|refine Z3x rfl ?_|refine Zk rfl rfl ?_)|((with_reducible show VD _ _ _ _ _ _ _);first|refine Z40 rfl rfl ax ?_|refine Z40 rfl rfl ay ?_|refine Zfs e2 rfl ?_|refine Zfs d1 rfl ?_|refine Zo rfl ?_|refine Z0a ?_|refine Ze6 rfl ?_)
     rfl
  ·subst d27
   have ho:T.R (.call Z1a [.int .i64 27] (.bool false)):=hoa
   rw [if_neg (show ¬(Zbc 27=true∧(Zbc ob=true∨ob=35)) from fun h=>by cases h.1)]
   cases fa with
   |false=>
    rw [Bool.false_and, if_neg (by decide)]
    refine ⟨z6, ?_, zc⟩
    refine Z7 rfl rfl ?_
    repeat' first|((with_reducible show V _ _ _ _ _ _);first|refine Z1 rfl ?_|refine Z9 rfl rfl ?_|refine Z6 rfl rfl ?_|refine V_D rfl ?_)|((with_reducible show VO _ _ _ _ _ _ _);first|refine Z5 rfl rfl ho ?_|refine Z5 rfl rfl htw ?_|refine Zt rfl rfl rfl ?_|refine Z0 rfl ?_|refine Zc rfl ?_|refine Z2 ?_|refine Z3x rfl ?_|refine Zk rfl rfl ?_)|((with_reducible show VD _ _ _ _ _ _ _);first|refine Zfs (Zb b27) rfl ?_|refine Zo rfl ?_|refine Z0a ?_|refine Ze6 rfl ?_|refine Z7h rfl rfl ?_)
    rfl
   |true=>
    cases eb with
    |true=>
     rw [Bool.true_and, if_pos rfl]
     refine ⟨_, ?_, ha0⟩
     refine Z7 rfl rfl ?_
     repeat' first|((with_reducible show V _ _ _ _ _ _);first|refine Z1 rfl ?_|refine Za rfl rfl ?_|refine Z9 rfl rfl ?_|refine Z6 rfl rfl ?_|refine V_D rfl ?_)|((with_reducible show VO _ _ _ _ _ _ _);first|refine Z0 (ba _ _ _ rfl) ?_|refine Z0 (bb _ _ _ rfl) ?_|refine Z5 rfl rfl ho ?_|refine Z5 rfl rfl htw ?_|refine Z5 rfl rfl hsm ?_|refine Zt rfl rfl rfl ?_|refine Z03 rfl rfl ona rfl rfl rfl rfl ?_|refine Z0 rfl ?_|refine Zc rfl ?_|refine Z2 ?_|refine Zh rfl ?_|refine Z3x rfl ?_|refine Zk rfl rfl ?_)|((with_reducible show VD _ _ _ _ _ _ _);first|refine Zfs (Zb b27) rfl ?_|refine Zo rfl ?_|refine Z0a ?_|refine Ze6 rfl ?_|refine Z7h rfl rfl ?_)
     rfl
    |false=>
     rw [Bool.true_and, if_neg (by decide)]
     refine ⟨z6, ?_, zc⟩
     refine Z7 rfl rfl ?_
     repeat' first|((with_reducible show V _ _ _ _ _ _);first|refine Z1 rfl ?_|refine Z9 rfl rfl ?_|refine Z6 rfl rfl ?_|refine V_D rfl ?_)|((with_reducible show VO _ _ _ _ _ _ _);first|refine Z0 (ba _ _ _ rfl) ?_|refine Z0 (bb _ _ _ rfl) ?_|refine Z5 rfl rfl ho ?_|refine Z5 rfl rfl htw ?_|refine Z5 rfl rfl hsm ?_|refine Zt rfl rfl rfl ?_|refine Z0 rfl ?_|refine Zc rfl ?_|refine Z2 ?_|refine Zh rfl ?_|refine Z3x rfl ?_|refine Zk rfl rfl ?_)|((with_reducible show VD _ _ _ _ _ _ _);first|refine Zfs (Zb b27) rfl ?_|refine Zo rfl ?_|refine Z0a ?_|refine Ze6 rfl ?_|refine Z7h rfl rfl ?_)
     rfl
 cases ho:Zbc oa with
 |true=>
  rw [ho] at hoa
  cases hq:Zbc ob with
  |true=>
   rw [hq] at hob
   rw [if_pos ⟨rfl, .inl rfl⟩]
   refine ⟨_, ?_, hb0⟩
   refine Z7 rfl rfl ?_
   repeat' first|((with_reducible show V _ _ _ _ _ _);first|refine Z1 rfl ?_|refine Za rfl rfl ?_|refine Z9 rfl rfl ?_|refine Z6 rfl rfl ?_|refine V_D rfl ?_)|((with_reducible show VO _ _ _ _ _ _ _);first|refine Z3 (Zb d24) rfl ?_|refine Z3 (Zb d26) rfl ?_|refine Z5 rfl rfl hoa ?_|refine Z5 rfl rfl hob ?_|refine Zt rfl rfl rfl ?_|refine Z03 rfl rfl onb rfl rfl rfl rfl ?_|refine Z0 rfl ?_|refine Zc rfl ?_|refine Z2 ?_|refine Zh rfl ?_|refine Zk rfl rfl ?_)|((with_reducible show VD _ _ _ _ _ _ _);first|refine Zfs (Zb d27) rfl ?_|refine Zo rfl ?_|refine Z0a ?_|refine Z7h rfl rfl ?_)
   rfl
  |false=>
   rw [hq] at hob
   by_cases h35:ob=35
   ·rw [if_pos ⟨rfl, .inr h35⟩]
    refine ⟨_, ?_, hb0⟩
    refine Z7 rfl rfl ?_
    repeat' first|((with_reducible show V _ _ _ _ _ _);first|refine Z1 rfl ?_|refine Za rfl rfl ?_|refine Z9 rfl rfl ?_|refine Z6 rfl rfl ?_|refine V_D rfl ?_)|((with_reducible show VO _ _ _ _ _ _ _);first|refine Z3 (Zb d24) rfl ?_|refine Z3 (Zb d26) rfl ?_|refine Z3 (Z0f h35) rfl ?_|refine Z5 rfl rfl hoa ?_|refine Z5 rfl rfl hob ?_|refine Zt rfl rfl rfl ?_|refine Z03 rfl rfl onb rfl rfl rfl rfl ?_|refine Z0 rfl ?_|refine Zc rfl ?_|refine Z2 ?_|refine Zh rfl ?_|refine Zk rfl rfl ?_)|((with_reducible show VD _ _ _ _ _ _ _);first|refine Zfs (Zb d27) rfl ?_|refine Zo rfl ?_|refine Z0a ?_|refine Z7h rfl rfl ?_)
    rfl
   ·rw [if_neg (by rintro ⟨_, h|h⟩;cases h;exact h35 h)]
    cases fa with
    |false=>
     rw [Bool.false_and, if_neg (by decide)]
     refine ⟨z6, ?_, zc⟩
     refine Z7 rfl rfl ?_
     repeat' first|((with_reducible show V _ _ _ _ _ _);first|refine Z1 rfl ?_|refine Z9 rfl rfl ?_|refine Z6 rfl rfl ?_|refine V_D rfl ?_)|((with_reducible show VO _ _ _ _ _ _ _);first|refine Z3 (Zb d24) rfl ?_|refine Z3 (Zb d26) rfl ?_|refine Z3 (Zb h35) rfl ?_|refine Z5 rfl rfl hoa ?_|refine Z5 rfl rfl hob ?_|refine Z5 rfl rfl htw ?_|refine Zt rfl rfl rfl ?_|refine Z0 rfl ?_|refine Zc rfl ?_|refine Z2 ?_|refine Zh rfl ?_|refine Zk rfl rfl ?_)|((with_reducible show VD _ _ _ _ _ _ _);first|refine Zfs (Zb d27) rfl ?_|refine Zo rfl ?_|refine Z0a ?_|refine Z7h rfl rfl ?_)
     rfl
    |true=>
     cases eb with
     |true=>
      rw [Bool.true_and, if_pos rfl]
      refine ⟨_, ?_, ha0⟩
      refine Z7 rfl rfl ?_
      repeat' first|((with_reducible show V _ _ _ _ _ _);first|refine Z1 rfl ?_|refine Za rfl rfl ?_|refine Z9 rfl rfl ?_|refine Z6 rfl rfl ?_|refine V_D rfl ?_)|((with_reducible show VO _ _ _ _ _ _ _);first|refine Z3 (Zb d24) rfl ?_|refine Z3 (Zb d26) rfl ?_|refine Z3 (Zb h35) rfl ?_|refine Z0 (ba _ _ _ rfl) ?_|refine Z0 (bb _ _ _ rfl) ?_|refine Z5 rfl rfl hoa ?_|refine Z5 rfl rfl hob ?_|refine Z5 rfl rfl htw ?_|refine Z5 rfl rfl hsm ?_|refine Zt rfl rfl rfl ?_|refine Z03 rfl rfl ona rfl rfl rfl rfl ?_|refine Z0 rfl ?_|refine Zc rfl ?_|refine Z2 ?_|refine Zh rfl ?_|refine Zk rfl rfl ?_)|((with_reducible show VD _ _ _ _ _ _ _);first|refine Zfs (Zb d27) rfl ?_|refine Zo rfl ?_|refine Z0a ?_|refine Z7h rfl rfl ?_)
      rfl
     |false=>
      rw [Bool.true_and, if_neg (by decide)]
      refine ⟨z6, ?_, zc⟩
      refine Z7 rfl rfl ?_
      repeat' first|((with_reducible show V _ _ _ _ _ _);first|refine Z1 rfl ?_|refine Z9 rfl rfl ?_|refine Z6 rfl rfl ?_|refine V_D rfl ?_)|((with_reducible show VO _ _ _ _ _ _ _);first|refine Z3 (Zb d24) rfl ?_|refine Z3 (Zb d26) rfl ?_|refine Z3 (Zb h35) rfl ?_|refine Z0 (ba _ _ _ rfl) ?_|refine Z0 (bb _ _ _ rfl) ?_|refine Z5 rfl rfl hoa ?_|refine Z5 rfl rfl hob ?_|refine Z5 rfl rfl htw ?_|refine Z5 rfl rfl hsm ?_|refine Zt rfl rfl rfl ?_|refine Z0 rfl ?_|refine Zc rfl ?_|refine Z2 ?_|refine Zh rfl ?_|refine Zk rfl rfl ?_)|((with_reducible show VD _ _ _ _ _ _ _);first|refine Zfs (Zb d27) rfl ?_|refine Zo rfl ?_|refine Z0a ?_|refine Z7h rfl rfl ?_)
      rfl
 |false=>
  rw [ho] at hoa
  rw [if_neg (fun h=>by cases h.1)]
  cases fa with
  |false=>
   rw [Bool.false_and, if_neg (by decide)]
   refine ⟨z6, ?_, zc⟩
   refine Z7 rfl rfl ?_
   repeat' first|((with_reducible show V _ _ _ _ _ _);first|refine Z1 rfl ?_|refine Z9 rfl rfl ?_|refine Z6 rfl rfl ?_|refine V_D rfl ?_)|((with_reducible show VO _ _ _ _ _ _ _);first|refine Z3 (Zb d24) rfl ?_|refine Z3 (Zb d26) rfl ?_|refine Z5 rfl rfl hoa ?_|refine Z5 rfl rfl htw ?_|refine Zt rfl rfl rfl ?_|refine Z0 rfl ?_|refine Zc rfl ?_|refine Z2 ?_|refine Z3x rfl ?_|refine Zk rfl rfl ?_)|((with_reducible show VD _ _ _ _ _ _ _);first|refine Zfs (Zb d27) rfl ?_|refine Zo rfl ?_|refine Z0a ?_|refine Z7h rfl rfl ?_)
   rfl
  |true=>
   cases eb with
   |true=>
    rw [Bool.true_and, if_pos rfl]
    refine ⟨_, ?_, ha0⟩
    refine Z7 rfl rfl ?_
    repeat' first|((with_reducible show V _ _ _ _ _ _);first|refine Z1 rfl ?_|refine Za rfl rfl ?_|refine Z9 rfl rfl ?_|refine Z6 rfl rfl ?_|refine V_D rfl ?_)|((with_reducible show VO _ _ _ _ _ _ _);first|refine Z3 (Zb d24) rfl ?_|refine Z3 (Zb d26) rfl ?_|refine Z0 (ba _ _ _ rfl) ?_|refine Z0 (bb _ _ _ rfl) ?_|refine Z5 rfl rfl hoa ?_|refine Z5 rfl rfl htw ?_|refine Z5 rfl rfl hsm ?_|refine Zt rfl rfl rfl ?_|refine Z03 rfl rfl ona rfl rfl rfl rfl ?_|refine Z0 rfl ?_|refine Zc rfl ?_|refine Z2 ?_|refine Zh rfl ?_|refine Z3x rfl ?_|refine Zk rfl rfl ?_)|((with_reducible show VD _ _ _ _ _ _ _);first|refine Zfs (Zb d27) rfl ?_|refine Zo rfl ?_|refine Z0a ?_|refine Z7h rfl rfl ?_)
    rfl
   |false=>
    rw [Bool.true_and, if_neg (by decide)]
    refine ⟨z6, ?_, zc⟩
    refine Z7 rfl rfl ?_
    repeat' first|((with_reducible show V _ _ _ _ _ _);first|refine Z1 rfl ?_|refine Z9 rfl rfl ?_|refine Z6 rfl rfl ?_|refine V_D rfl ?_)|((with_reducible show VO _ _ _ _ _ _ _);first|refine Z3 (Zb d24) rfl ?_|refine Z3 (Zb d26) rfl ?_|refine Z0 (ba _ _ _ rfl) ?_|refine Z0 (bb _ _ _ rfl) ?_|refine Z5 rfl rfl hoa ?_|refine Z5 rfl rfl htw ?_|refine Z5 rfl rfl hsm ?_|refine Zt rfl rfl rfl ?_|refine Z0 rfl ?_|refine Zc rfl ?_|refine Z2 ?_|refine Zh rfl ?_|refine Z3x rfl ?_|refine Zk rfl rfl ?_)|((with_reducible show VD _ _ _ _ _ _ _);first|refine Zfs (Zb d27) rfl ?_|refine Zo rfl ?_|refine Z0a ?_|refine Z7h rfl rfl ?_)
    rfl
set_option maxHeartbeats 8000000 in
theorem rtrim_loop {n:Nat}:∀(N:Nat) (l:List Stp) (p:PV) (st:St), l.length≤N→SL n p l→
  V T (PE fun x e st'=>(x=.exit 0∧∃q, e=Ze [(0, q)]∧SL n q (trimS l))∨(x=.ret∧∃q, e=Ze [(2, q)]∧SL n q (trimS l))) [.code (.loop Z3j)] .normal (Ze [(0, p)]) st:=by
 have stop:∀(l:List Stp) (p:PV) (st:St), l.length≤1→SL n p l→V T (PE fun x e st'=>(x=.exit 0∧∃q, e=Ze [(0, q)]∧SL n q (trimS l))∨(x=.ret∧∃q, e=Ze [(2, q)]∧SL n q (trimS l))) [.code (.loop Z3j)] .normal (Ze [(0, p)]) st:=by
  intro l p st hl hp
  obtain ⟨e1, e2, _⟩:=hp.len
  have hlt:decide ((1:Int)<(l.length:Int))=false:=decide_eq_false (by omega)
  rw [trimS_one l hl]
  refine Zf ?_
  repeat' first|((with_reducible show V _ _ _ _ _ _);first|refine Z48 hlt rfl rfl ?_|refine Zr [(0, p)] rfl ⟨rfl, trivial⟩ (.inl ⟨rfl, p, rfl, hp⟩)|refine Z1 rfl ?_)|((with_reducible show VO _ _ _ _ _ _ _);first|refine Z4 rfl e1 e2 ?_|refine Z0 rfl ?_|refine Z2 ?_)
 intro N
 induction N with
 |zero=>exact fun l p st hl hp=>stop l p st (by omega) hp
 |succ N ih=>
  intro l p st hl hp
  by_cases hl1:l.length≤1
  ·exact stop l p st hl1 hp
  rcases List.eq_nil_or_concat l with rfl|⟨l0, s, rfl⟩
  ·simp at hl1
  rw [List.concat_eq_append] at *
  have hne:l0≠[]:=by rintro rfl;simp at hl1
  obtain ⟨e1, e2, e3⟩:=hp.len
  have plp:=SL.pl hp
  have hll:(l0++[s]).length=l0.length+1:=by simp
  have hlt:decide ((1:Int)<((l0++[s]).length:Int))=true:=decide_eq_true (by omega)
  have w1:PV.int .i64 (IntKind.i64.wrap (((l0++[s]).length:Int)-1))=PV.int .i64 (l0.length:Int):=Z5e (by rw [Z01];omega)
  obtain ⟨cs, ay, hs⟩:=SL.at hp (j:=l0.length) (s:=s) (by simp)
  obtain ⟨q', hsl, hq'⟩:=sl_take hp (m:=l0.length) (by omega) (by simp)
  rw [List.take_left' rfl] at hq'
  have h6:=hs.len6
  have hone:=hs.one
  rw [Zqe hne]
  cases n with
  |zero=>exact hs.elim
  |succ m=>
  obtain ⟨op, names, nums, preds, vals, subs⟩:=s
  obtain ⟨ho, pa, pb, pc, pd, pe, rfl, h1, h2, h3, h4, h5⟩:=hs
  obtain ⟨g1, g2, g3⟩:=h2.len
  have hio:=Zko op
  have trE:trB (.mk op names nums preds vals subs)=(decide (op=24)||Zbc op||(decide (op=26)&&decide (nums.length=1)&&decide (0<nums.headD 0))):=rfl
  have hz:z6.length=6:=rfl
  obtain ⟨S1, hS1⟩:∃S, st.new (.var z6)=S:=⟨_, rfl⟩
  have a1:S1.get st.next=some (.var z6):=by rw [←hS1];exact St.get_new
  obtain ⟨S2, hS2⟩:∃S, S1.put st.next (.var [.int .i64 op, pa, pb, pc, pd, pe])=S:=⟨_, rfl⟩
  have a2:S2.get st.next=some (.var [.int .i64 op, pa, pb, pc, pd, pe]):=by rw [←hS2];exact St.get_put
  have hi:=ih l0 q' S2 (by omega) hq'
  by_cases o24:op=24
  ·have tr:trB (.mk op names nums preds vals subs)=true:=by rw [trE];simp [o24]
   rw [tr, if_pos rfl]
   refine Zf ?_
   repeat' first|((with_reducible show V _ _ _ _ _ _);first|refine Z15 hlt rfl rfl ?_|refine Z7z rfl hi ⟨rfl, trivial⟩|refine Z1 rfl ?_|refine Z9 rfl rfl ?_)|((with_reducible show VO _ _ _ _ _ _ _);first|refine Z4 rfl e1 e2 ?_|refine Z3 w1 rfl ?_|refine Zg rfl rfl ay ?_|refine Z07 rfl h6 ?_|refine Z0b hS1 rfl ?_|refine Z0j hS2 a1 hone rfl hz rfl rfl rfl ?_|refine Z0 (ldv a2 rfl rfl) ?_|refine Z3 (Z0k o24) rfl ?_|refine Zlk q' rfl rfl rfl rfl (hsl _) ?_|refine Z0 rfl ?_|refine Z2 ?_|refine Z3x rfl ?_|refine Zk rfl rfl ?_)
  by_cases oo:Zbc op=true
  ·have tr:trB (.mk op names nums preds vals subs)=true:=by rw [trE];simp [oo]
   rw [tr, if_pos rfl]
   rw [oo] at hio
   refine Zf ?_
   repeat' first|((with_reducible show V _ _ _ _ _ _);first|refine Z15 hlt rfl rfl ?_|refine Z7z rfl hi ⟨rfl, trivial⟩|refine Z1 rfl ?_|refine Z9 rfl rfl ?_)|((with_reducible show VO _ _ _ _ _ _ _);first|refine Z4 rfl e1 e2 ?_|refine Z3 w1 rfl ?_|refine Zg rfl rfl ay ?_|refine Z07 rfl h6 ?_|refine Z0b hS1 rfl ?_|refine Z0j hS2 a1 hone rfl hz rfl rfl rfl ?_|refine Z0 (ldv a2 rfl rfl) ?_|refine Z3 (Z0e o24) rfl ?_|refine Z5 rfl rfl hio ?_|refine Zlk q' rfl rfl rfl rfl (hsl _) ?_|refine Z0 rfl ?_|refine Z2 ?_|refine Zh rfl ?_|refine Z3x rfl ?_|refine Zk rfl rfl ?_)
  have oo':Zbc op=false:=by simpa using oo
  rw [oo'] at hio
  by_cases o26:op=26
  ·by_cases hn1:nums.length=1
   ·obtain ⟨k, rfl⟩:=List.length_eq_one_iff.1 hn1
    obtain ⟨ck, ak, hk, rfl⟩:=h2.at (sz:=1) (fun _ _ h=>h.len1) (j:=0) (a:=k) rfl
    have d1:=Z0k (p:=(([k]:List Int).length:Int)=1) (by simp)
    by_cases hk0:k<1
    ·have tr:trB (.mk op names [k] preds vals subs)=false:=by rw [trE];simp [oo', o24];omega
     rw [tr, if_neg (by decide)]
     refine Zf ?_
     repeat' first|((with_reducible show V _ _ _ _ _ _);first|refine Z15 hlt rfl rfl ?_|refine Zr [(2, p)] rfl ⟨rfl, trivial⟩ (.inr ⟨rfl, p, rfl, hp⟩)|refine Z1 rfl ?_|refine Za rfl rfl ?_)|((with_reducible show VO _ _ _ _ _ _ _);first|refine Z4 rfl e1 e2 ?_|refine Z3 w1 rfl ?_|refine Zg rfl rfl ay ?_|refine Z07 rfl h6 ?_|refine Z0b hS1 rfl ?_|refine Z0j hS2 a1 hone rfl hz rfl rfl rfl ?_|refine Z0 (ldv a2 rfl rfl) ?_|refine Z3 (Z0e o24) rfl ?_|refine Z5 rfl rfl hio ?_|refine Z3 (Z0k o26) rfl ?_|refine Z4 rfl g1 g2 ?_|refine Z3 d1 rfl ?_|refine Zg rfl rfl ak ?_|refine Z3 (Z0f hk0) rfl ?_|refine Z0 rfl ?_|refine Z2 ?_|refine Zh rfl ?_)
    ·have tr:trB (.mk op names [k] preds vals subs)=true:=by rw [trE];simp [o26];omega
     rw [tr, if_pos rfl]
     refine Zf ?_
     repeat' first|((with_reducible show V _ _ _ _ _ _);first|refine Z15 hlt rfl rfl ?_|refine Z7z rfl hi ⟨rfl, trivial⟩|refine Z1 rfl ?_|refine Z9 rfl rfl ?_)|((with_reducible show VO _ _ _ _ _ _ _);first|refine Z4 rfl e1 e2 ?_|refine Z3 w1 rfl ?_|refine Zg rfl rfl ay ?_|refine Z07 rfl h6 ?_|refine Z0b hS1 rfl ?_|refine Z0j hS2 a1 hone rfl hz rfl rfl rfl ?_|refine Z0 (ldv a2 rfl rfl) ?_|refine Z3 (Z0e o24) rfl ?_|refine Z5 rfl rfl hio ?_|refine Z3 (Z0k o26) rfl ?_|refine Z4 rfl g1 g2 ?_|refine Z3 d1 rfl ?_|refine Zg rfl rfl ak ?_|refine Z3 (Zb hk0) rfl ?_|refine Zlk q' rfl rfl rfl rfl (hsl _) ?_|refine Z0 rfl ?_|refine Z2 ?_|refine Zh rfl ?_)
   ·have tr:trB (.mk op names nums preds vals subs)=false:=by rw [trE];simp [hn1, oo', o24]
    rw [tr, if_neg (by decide)]
    have d1:=Z0e (p:=(nums.length:Int)=1) (by omega)
    refine Zf ?_
    repeat' first|((with_reducible show V _ _ _ _ _ _);first|refine Z15 hlt rfl rfl ?_|refine Zr [(2, p)] rfl ⟨rfl, trivial⟩ (.inr ⟨rfl, p, rfl, hp⟩)|refine Z1 rfl ?_|refine Za rfl rfl ?_)|((with_reducible show VO _ _ _ _ _ _ _);first|refine Z4 rfl e1 e2 ?_|refine Z3 w1 rfl ?_|refine Zg rfl rfl ay ?_|refine Z07 rfl h6 ?_|refine Z0b hS1 rfl ?_|refine Z0j hS2 a1 hone rfl hz rfl rfl rfl ?_|refine Z0 (ldv a2 rfl rfl) ?_|refine Z3 (Z0e o24) rfl ?_|refine Z5 rfl rfl hio ?_|refine Z3 (Z0k o26) rfl ?_|refine Z4 rfl g1 g2 ?_|refine Z3 d1 rfl ?_|refine Z0 rfl ?_|refine Z2 ?_|refine Zh rfl ?_|refine Zk rfl rfl ?_)
  ·have tr:trB (.mk op names nums preds vals subs)=false:=by rw [trE];simp [oo', o24, o26]
   rw [tr, if_neg (by decide)]
   refine Zf ?_
   repeat' first|((with_reducible show V _ _ _ _ _ _);first|refine Z15 hlt rfl rfl ?_|refine Zr [(2, p)] rfl ⟨rfl, trivial⟩ (.inr ⟨rfl, p, rfl, hp⟩)|refine Z1 rfl ?_|refine Za rfl rfl ?_)|((with_reducible show VO _ _ _ _ _ _ _);first|refine Z4 rfl e1 e2 ?_|refine Z3 w1 rfl ?_|refine Zg rfl rfl ay ?_|refine Z07 rfl h6 ?_|refine Z0b hS1 rfl ?_|refine Z0j hS2 a1 hone rfl hz rfl rfl rfl ?_|refine Z0 (ldv a2 rfl rfl) ?_|refine Z3 (Z0e o24) rfl ?_|refine Z5 rfl rfl hio ?_|refine Z3 (Z0e o26) rfl ?_|refine Z0 rfl ?_|refine Z2 ?_|refine Zh rfl ?_|refine Zk rfl rfl ?_)
theorem run_rTrim {n:Nat} {l:List Stp} {p:PV} (hp:SL n p l):∃q, T.R (.call Zjt [p] q)∧SL n q (trimS l):=by
 have hl:=rtrim_loop l.length l p emptySt (Nat.le_refl _) hp
 refine Z1z rfl rfl ?_
 repeat' first|refine Z08 rfl hl ⟨rfl, trivial⟩ ?_|refine Z1 rfl ?_|refine Z0 rfl ?_|refine Z2 ?_
 rintro x e st' (⟨rfl, q, rfl, hq⟩|⟨rfl, q, rfl, hq⟩)
 ·have plq:=SL.pl hq
  repeat' first|refine Z8u rfl rfl plq.view hq|refine Z1 rfl ?_|refine Z0 rfl ?_|refine Z2 ?_
 ·have plq:=SL.pl hq
  repeat' first|refine Z8u rfl rfl plq.view hq
theorem acc_tell {α:Type} {R:α→List PV→Prop} {sz:Nat} {st:St} {v:PV} {L:List α} (h:AccR R sz st v L) (hpl:∀a cs, R a cs→∀c∈cs, Pl c) (hl:L.length≤140737488355328):
  ∃S' q, LR R q L∧PV.one q=true∧q.cells=[q]∧S'.base=st.base∧S'.next=st.next∧(∀u, Z0g v≠some u→S'.get u=st.get u)∧Zq9 S' v q∧∀ {Q:Z6k} {k k':List Fr} {x:EX} {ρ:EC} {c:PC}, Zs 200 k x=(.code c::k', .normal)→V T Q (.code c::k') .normal ρ S'→V T Q k x ρ st:=by
 rcases h.plain hpl hl with ⟨rfl, rfl⟩|⟨t, g, es, q, rfl, k1, k2, k3, k4, k5⟩
 ·exact ⟨st, .nilSl, .inl ⟨rfl, rfl⟩, rfl, rfl, rfl, rfl, fun _ _=>rfl, .inl rfl, fun ha h=>Z5j ha h⟩
 ·obtain ⟨S1, hS1⟩:∃S, st.put t (.row g sz es false)=S:=⟨_, rfl⟩
  have hc:q.cells=[q]:=by rcases k3 with ⟨rfl, _⟩|⟨_, _, rfl, _⟩<;>rfl
  exact ⟨S1, q, k3, k4, hc, by rw [←hS1];rfl, by rw [←hS1];rfl, fun u hu=>by rw [←hS1];exact St.get_put_old (fun e=>hu (by subst e;exact k1)), k5 _ hS1, fun ha h=>Znh k2 hS1 ha h⟩
theorem rcv_loop {L:List Val} {q k n s:PV} (hq:LR VC q L) (hb:L.length≤512) (hall:∀a∈L, ∀cs, VC a cs→∃cs', T.R (.call Z18 [.agg cs] (.agg cs'))∧VC a cs'):∀(rest pre:List Val) (st:St) (v:PV), L=pre++rest→st.get 0=some (.var [k, n, s, q])→st.get 1=some (.var z4)→AccR VC 4 st v pre→(∀u, Z0g v=some u→2≤u)→2≤st.next→
  V T (PE fun x e st'=>x=.exit 0∧st'.get 0=some (.var [k, n, s, q])∧st'.get 1=some (.var z4)∧∃v', e=Ze [(1, .ptr 0 0), (2, .ptr 1 0), (3, v')]∧AccR VC 4 st' v' L∧∀u, Z0g v'=some u→2≤u) [.code (.loop Z3k)] .normal (Ze [(1, .ptr 0 0), (2, .ptr 1 0), (3, v), (4, .int .i64 pre.length)]) st:=by
 obtain ⟨e1, e2, _⟩:=hq.len
 intro rest
 induction rest with
 |nil=>
  intro pre st v hl g0 g1 hv ht hn
  have hlt:decide ((pre.length:Int)<L.length)=false:=decide_eq_false (by subst hl;simp)
  have hv':AccR VC 4 st v L:=by
   rw [hl, List.append_nil]
   exact hv
  refine Zf ?_
  repeat' first|((with_reducible show V _ _ _ _ _ _);first|refine Z48 hlt rfl rfl ?_|refine Zr [(1, .ptr 0 0), (2, .ptr 1 0), (3, v)] rfl ⟨rfl, rfl, rfl, trivial⟩ ⟨rfl, g0, g1, v, rfl, hv', ht⟩|refine Z1 rfl ?_)|((with_reducible show VO _ _ _ _ _ _ _);first|refine Z0 (ldv g0 rfl rfl) ?_|refine Z4 rfl e1 e2 ?_|refine Z0 rfl ?_|refine Z2 ?_)
 |cons y rest ihr=>
  intro pre st v hl g0 g1 hv ht hn
  have hlt:decide ((pre.length:Int)<L.length)=true:=decide_eq_true (by subst hl;simp;omega)
  have hpl:pre.length<L.length:=by subst hl;simp
  obtain ⟨cs, ay, hcs⟩:=hq.at (sz:=4) (fun _ _ h=>h.c4.1) (j:=pre.length) (a:=y) (by subst hl;simp)
  obtain ⟨c', c1, c2⟩:=hall y (by subst hl;simp) cs hcs
  have l4:=hcs.c4.1
  have p4:=hcs.c4.2.2
  have m4:=c2.c4.1
  obtain ⟨v', S3, r1, r2, r3⟩:=hv.app c2 (bytes:=56) (by subst hl;simp only [List.length_append, List.length_cons] at hb;simp only [Z05];omega)
  have kk:∀u, u<2→S3.get u=st.get u:=fun u hu=>r3.2.2.2 u (by omega) fun e=>by have:=ht u e;omega
  have t3:∀u, Z0g v'=some u→2≤u:=fun u hu=>by
   rcases r3.2.2.1 with e|⟨t, e, h⟩
   ·exact ht u (e ▸ hu)
   ·rw [e] at hu
    injection hu with hu
    omega
  have n3:=r3.2.1
  have hw:IntKind.i64.wrap ((pre.length:Int)+1)=((pre++[y]).length:Int):=by rw [Z01];simp;omega
  have hi:=ihr (pre++[y]) S3 v' (by rw [hl];simp) ((kk 0 (by omega)).trans g0) ((kk 1 (by omega)).trans g1) r2 t3 (by omega)
  have hz:z4.length=4:=rfl
  refine Zf ?_
  repeat' first|((with_reducible show V _ _ _ _ _ _);first|refine Z15 hlt rfl rfl ?_|refine Z7z rfl hi ⟨rfl, rfl, rfl, Z04 hw, trivial⟩|refine Z1 rfl ?_)|((with_reducible show VO _ _ _ _ _ _ _);first|refine Z0 (ldv g0 rfl rfl) ?_|refine Z4 rfl e1 e2 ?_|refine Zg rfl rfl ay ?_|refine Z07 rfl l4 ?_|refine Z5 rfl rfl c1 ?_|refine Z0 (buildSlN m4 hz rfl) ?_|refine Z25 rfl rfl rfl (Zq3 m4 c2.c4.2.1) (by decide) (by decide) r1 ?_|refine Z0 rfl ?_|refine Z2 ?_)
theorem run_rCV:∀(f:Nat) (v:Val) (cs:List PV), Zp f v=true→VC v cs→∃cs', T.R (.call Z18 [.agg cs] (.agg cs'))∧VC v cs'
 |0, v, cs, hm, hv=>by simp [Zp] at hm
 |f+1, .mk k n s l, cs, hm, hv=>by
  obtain ⟨hl, hall⟩:=mayV_l hm
  obtain ⟨hk, hn, hs, p, rfl, hp⟩:=hv.open
  have hp':LR VC p l:=hp
  have hone:∀c∈[PV.int .i64 k, .int .i64 n, .str s, p], PV.one c=true:=(VC.c4 hv).2.1
  obtain ⟨S0, hS0⟩:∃S, emptySt.new (.var [.int .i64 k, .int .i64 n, .str s, p])=S:=⟨_, rfl⟩
  have n0:S0.next=1:=by rw [←hS0];rfl
  obtain ⟨S1, hS1⟩:∃S, S0.new (.var z4)=S:=⟨_, rfl⟩
  have a0:S1.get 0=some (.var [.int .i64 k, .int .i64 n, .str s, p]):=by rw [←hS1, ←hS0];rfl
  have a1:S1.get 1=some (.var z4):=by rw [←hS1, ←hS0];rfl
  have n1:S1.next=2:=by rw [←hS1, ←hS0];rfl
  have hlp:=rcv_loop hp' hl (fun a ha cs hc=>run_rCV f a cs (List.all_eq_true.1 hall a ha) hc) l [] S1 .nilSl rfl a0 a1 .nil (fun u hu=>by cases hu) (by omega)
  have key:∃r, T.R (.call Z18 [.agg [.int .i64 k, .int .i64 n, .str s, p]] r)∧∃cs', r=.agg cs'∧VC (.mk k n s l) cs':=by
   refine Z1z rfl rfl ?_
   repeat' first|refine Z08 rfl hlp ⟨rfl, rfl, rfl, rfl, trivial⟩ ?_|refine Z1 rfl ?_|((with_reducible show VO _ _ _ _ _ _ _);first|refine Z9y hS0 rfl rfl ?_|refine Z0b hS1 n0 ?_|refine Z0 rfl ?_|refine Z2 ?_)
   rintro x e st' ⟨rfl, g0, g1, v', rfl, hA, ht⟩
   obtain ⟨S2, q, q1, q2, q3, q4, q5, q6, q7, q8⟩:=acc_tell hA (fun _ _ h=>h.c4.2.2) (by omega)
   have b0:S2.get 0=some (.var [.int .i64 k, .int .i64 n, .str s, p]):=(q6 0 (fun e=>by have:=ht 0 e;omega)).trans g0
   have b1:S2.get 1=some (.var z4):=(q6 1 (fun e=>by have:=ht 1 e;omega)).trans g1
   have hv':VC (.mk k n s l) [.int .i64 k, .int .i64 n, .str s, q]:=LC.vc q1 hk hn hs
   obtain ⟨S3, hS3⟩:∃S, S2.put 0 (.var [.int .i64 k, .int .i64 n, .str s, q])=S:=⟨_, rfl⟩
   have c0:S3.get 0=some (.var [.int .i64 k, .int .i64 n, .str s, q]):=by rw [←hS3];exact St.get_put
   have c1:S3.get 1=some (.var z4):=by rw [←hS3];exact (St.get_put_old (by omega)).trans b1
   obtain ⟨S4, hS4⟩:∃S, S3.put 1 (.var [.int .i64 k, .int .i64 n, .str s, q])=S:=⟨_, rfl⟩
   have d1:S4.get 1=some (.var [.int .i64 k, .int .i64 n, .str s, q]):=by rw [←hS4];exact St.get_put
   have ho:=(VC.c4 hv').2.1
   have hpl:=(VC.c4 hv').2.2
   refine q8 rfl ?_
   refine V_lookEnv [(1, .ptr 0 0, .ptr 0 0), (2, .ptr 1 0, .ptr 1 0), (3, v', q)] rfl (fun y hy=>?_) ?_
   ·simp only [List.mem_cons, List.not_mem_nil, or_false] at hy
    rcases hy with rfl|rfl|rfl
    ·exact ⟨rfl, .inl rfl⟩
    ·exact ⟨rfl, .inl rfl⟩
    ·exact ⟨rfl, q7⟩
   repeat' first|refine Z8u rfl (resC rfl d1 rfl) (Pl.agg _ hpl).view ⟨_, rfl, hv'⟩|refine Z1 rfl ?_|((with_reducible show VO _ _ _ _ _ _ _);first|refine Zc (Z6l (off:=3) b0 q3 q2 rfl rfl hS3 rfl rfl) ?_|refine Zt rfl c0 rfl ?_|refine Z0j hS4 c1 ho rfl rfl rfl rfl rfl ?_|refine Z0 rfl ?_|refine Z2 ?_)
  obtain ⟨r, r1, cs', rfl, r2⟩:=key
  exact ⟨cs', r1, r2⟩
theorem rcall_loop {L:List Val} {q:PV} (hq:LR VC q L) (hb:L.length≤512) (hall:∀a∈L, ∀cs, VC a cs→∃cs', T.R (.call Z18 [.agg cs] (.agg cs'))∧VC a cs'):∀(rest pre:List Val) (st:St) (v:PV), L=pre++rest→AccR VC 4 st v pre→
  V T (PE fun x e st'=>x=.exit 0∧∃v', e=Ze [(3, v')]∧AccR VC 4 st' v' L) [.code (.loop Z45)] .normal (Ze [(0, q), (3, v), (4, .int .i64 pre.length)]) st:=by
 obtain ⟨e1, e2, _⟩:=hq.len
 intro rest
 induction rest with
 |nil=>
  intro pre st v hl hv
  have hlt:decide ((pre.length:Int)<L.length)=false:=decide_eq_false (by subst hl;simp)
  have hv':AccR VC 4 st v L:=by
   rw [hl, List.append_nil]
   exact hv
  refine Zf ?_
  repeat' first|((with_reducible show V _ _ _ _ _ _);first|refine Z48 hlt rfl rfl ?_|refine Zr [(3, v)] rfl ⟨rfl, trivial⟩ ⟨rfl, v, rfl, hv'⟩|refine Z1 rfl ?_)|((with_reducible show VO _ _ _ _ _ _ _);first|refine Z4 rfl e1 e2 ?_|refine Z0 rfl ?_|refine Z2 ?_)
 |cons y rest ihr=>
  intro pre st v hl hv
  have hlt:decide ((pre.length:Int)<L.length)=true:=decide_eq_true (by subst hl;simp;omega)
  have hpl:pre.length<L.length:=by subst hl;simp
  obtain ⟨cs, ay, hcs⟩:=hq.at (sz:=4) (fun _ _ h=>h.c4.1) (j:=pre.length) (a:=y) (by subst hl;simp)
  obtain ⟨c', c1, c2⟩:=hall y (by subst hl;simp) cs hcs
  have l4:=hcs.c4.1
  have p4:=hcs.c4.2.2
  have m4:=c2.c4.1
  obtain ⟨v', S3, r1, r2, r3⟩:=hv.app c2 (bytes:=56) (by subst hl;simp only [List.length_append, List.length_cons] at hb;simp only [Z05];omega)
  have hw:IntKind.i64.wrap ((pre.length:Int)+1)=((pre++[y]).length:Int):=by rw [Z01];simp;omega
  have hi:=ihr (pre++[y]) S3 v' (by rw [hl];simp) r2
  have hz:z4.length=4:=rfl
  refine Zf ?_
  repeat' first|((with_reducible show V _ _ _ _ _ _);first|refine Z15 hlt rfl rfl ?_|refine Z7z rfl hi ⟨rfl, rfl, Z04 hw, trivial⟩|refine Z1 rfl ?_)|((with_reducible show VO _ _ _ _ _ _ _);first|refine Z4 rfl e1 e2 ?_|refine Zg rfl rfl ay ?_|refine Z07 rfl l4 ?_|refine Z5 rfl rfl c1 ?_|refine Z0 (buildSlN m4 hz rfl) ?_|refine Z25 rfl rfl rfl (Zq3 m4 c2.c4.2.1) (by decide) (by decide) r1 ?_|refine Z0 rfl ?_|refine Z2 ?_)
theorem Ziy {q:PV} {L:List Val} (hq:LR VC q L) (hb:L.length≤512) {f:Nat} (hm:L.all (Zp f)=true):∃q', T.R (.call Zdp [q] q')∧LR VC q' L:=by
 have hlp:=rcall_loop hq hb (fun a ha cs hc=>run_rCV f a cs (List.all_eq_true.1 hm a ha) hc) L [] emptySt .nilSl rfl .nil
 refine Z1z rfl rfl ?_
 repeat' first|refine Z08 rfl hlp ⟨rfl, rfl, rfl, trivial⟩ ?_|refine Z1 rfl ?_|refine Z0 rfl ?_|refine Z2 ?_
 rintro x e st' ⟨rfl, v', rfl, hv'⟩
 obtain ⟨q', w1, w2⟩:=hv'.view (fun _ _ h=>h.pl) (by omega)
 repeat' first|refine Z8u rfl rfl w1 w2|refine Z1 rfl ?_|refine Z0 rfl ?_|refine Z2 ?_
end Go.Proofs.YtnedeokclnbcpaaGreatDoor
