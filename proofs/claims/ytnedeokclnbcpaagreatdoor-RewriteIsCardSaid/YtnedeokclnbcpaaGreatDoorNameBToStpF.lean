/- Names: rambleref02.Name. · Names, words, shapes, predicates: the document's (rambleref16, rambleref02.Name). · Whether steps may be: the document's (rambleref16.step, Count, Check). -/
import Derived.Test.YtnedeokclnbcpaaGreatDoorNameAToStpD
import Derived.Test.YtnedeokclnbcpaaGreatDoorAmZ
set_option linter.unusedVariables false
set_option linter.unusedSimpArgs false
namespace Go.Proofs.YtnedeokclnbcpaaGreatDoor
open Go Go.AM Go.RowKit
def isLetI (n:Int):Bool:=decide (n=95)||(decide (97≤n)&&decide (n≤122))||(decide (65≤n)&&decide (n≤90))
theorem isLet_I (c:UInt8):Zac c=isLetI c.toNat:=by
 unfold Zac isLetI
 have h1:(c == 95)=decide ((c.toNat:Int)=95):=by
  rw [Bool.eq_iff_iff, beq_iff_eq, decide_eq_true_eq]
  constructor
  ·intro h;subst h;rfl
  ·intro h;exact UInt8.toNat_inj.1 (by have:(95:UInt8).toNat=95:=rfl;omega)
 have h2:∀n:Nat, decide (n≤c.toNat)=decide ((n:Int)≤(c.toNat:Int)):=fun n=>by rw [decide_eq_decide];omega
 have h3:∀n:Nat, decide (c.toNat≤n)=decide ((c.toNat:Int)≤(n:Int)):=fun n=>by rw [decide_eq_decide];omega
 rw [h1, h2, h2, h3, h3]
 rfl
theorem Zqj (c:UInt8):T.R (.call Zg9 [.int .u8 c.toNat] (.bool (Zac c))):=by
 rw [isLet_I]
 unfold isLetI
 generalize (c.toNat:Int)=n
 refine Z7 rfl rfl ?_
 repeat' first|refine Z1 rfl ?_|refine Z6 rfl rfl ?_|((with_reducible show VO _ _ _ _ _ _ _);first|refine Z0 rfl ?_|refine Z2 ?_|refine Zh rfl ?_|refine Z3x rfl ?_|refine Zk rfl rfl ?_|refine Zba rfl (fun _=>?_) (fun _=>?_))
 all_goals simp_all
 all_goals omega
def okC (c:UInt8):Bool:=Zac c||isDg c
theorem dg_parts (c:UInt8):isDg c=(!decide ((c.toNat:Int)<48)&&!decide (57<(c.toNat:Int))):=by
 unfold isDg
 rw [Bool.eq_iff_iff]
 simp only [Bool.and_eq_true, decide_eq_true_eq, Bool.not_eq_true', decide_eq_false_iff_not]
 omega
theorem rname_loop {s:List UInt8} (hs:s.length≤140737488355328):∀(rest pre:List UInt8), s=pre++rest→
  V T (PE fun x e st'=>st'=emptySt∧((x=.exit 0∧rest.all okC=true)∨(x=.ret∧rest.all okC=false∧e=Ze [(2, .bool false)])))
   [.code (.loop Z7a)] .normal (Ze [(0, .str s), (3, .int .i64 pre.length)]) emptySt:=by
 intro rest
 induction rest with
 |nil=>
  intro pre ha
  have hlt:¬(pre.length:Int)<s.length:=by subst ha;simp
  refine Zf ?_
  repeat' first|((with_reducible show V _ _ _ _ _ _);first|refine Ze4 rfl rfl hlt ?_|refine Zr [] rfl trivial ⟨rfl, .inl ⟨rfl, rfl⟩⟩|refine Z1 rfl ?_)|refine Z0 rfl ?_|refine Z2 ?_
 |cons c rest ih=>
  intro pre ha
  have hlt:(pre.length:Int)<s.length:=by subst ha;simp;omega
  have hll:pre.length<s.length:=by subst ha;simp
  have hch:s[((pre.length:Nat):Int).toNat]?=some c:=by subst ha;simp
  have hw:IntKind.i64.wrap ((pre.length:Int)+1)=((pre++[c]).length:Int):=by rw [Z01];simp;omega
  have hi:=ih (pre++[c]) (by rw [ha];simp)
  have hl:=Zqj c
  have hd:=dg_parts c
  rw [List.all_cons]
  have hok:okC c=(Zac c||isDg c):=rfl
  rw [hok]
  refine Zf ?_
  cases hL:Zac c with
  |true=>
   rw [hL] at hl
   rw [Bool.true_or, Bool.true_and]
   repeat' first|((with_reducible show V _ _ _ _ _ _);first|refine Z2s rfl rfl hlt ?_|refine Z7z rfl hi ⟨rfl, Z04 hw, trivial⟩|refine Z1 rfl ?_|refine Z9 rfl rfl ?_)|((with_reducible show VO _ _ _ _ _ _ _);first|refine Zn4 c rfl rfl (by omega) hch ?_|refine Z5 rfl rfl hl ?_|refine Z0 rfl ?_|refine Z2 ?_|refine Z3x rfl ?_|refine Zk rfl rfl ?_)
  |false=>
   rw [hL] at hl
   rw [Bool.false_or, hd]
   by_cases c1:(c.toNat:Int)<48
   ·rw [decide_eq_true c1]
    repeat' first|((with_reducible show V _ _ _ _ _ _);first|refine Z2s rfl rfl hlt ?_|refine Zr [(2, .bool false)] rfl ⟨rfl, trivial⟩ ⟨rfl, .inr ⟨rfl, rfl, rfl⟩⟩|refine Z1 rfl ?_|refine Za rfl rfl ?_)|((with_reducible show VO _ _ _ _ _ _ _);first|refine Zn4 c rfl rfl (by omega) hch ?_|refine Z5 rfl rfl hl ?_|refine Z3 (Z0f c1) rfl ?_|refine Z0 rfl ?_|refine Z2 ?_|refine Zh rfl ?_|refine Zk rfl rfl ?_)
   ·rw [decide_eq_false c1]
    by_cases c2:57<(c.toNat:Int)
    ·rw [decide_eq_true c2]
     repeat' first|((with_reducible show V _ _ _ _ _ _);first|refine Z2s rfl rfl hlt ?_|refine Zr [(2, .bool false)] rfl ⟨rfl, trivial⟩ ⟨rfl, .inr ⟨rfl, rfl, rfl⟩⟩|refine Z1 rfl ?_|refine Za rfl rfl ?_)|((with_reducible show VO _ _ _ _ _ _ _);first|refine Zn4 c rfl rfl (by omega) hch ?_|refine Z5 rfl rfl hl ?_|refine Z3 (Zb c1) rfl ?_|refine Z3 (Z0f c2) rfl ?_|refine Z0 rfl ?_|refine Z2 ?_|refine Zh rfl ?_)
    ·rw [decide_eq_false c2]
     repeat' first|((with_reducible show V _ _ _ _ _ _);first|refine Z2s rfl rfl hlt ?_|refine Z7z rfl hi ⟨rfl, Z04 hw, trivial⟩|refine Z1 rfl ?_|refine Z9 rfl rfl ?_)|((with_reducible show VO _ _ _ _ _ _ _);first|refine Zn4 c rfl rfl (by omega) hch ?_|refine Z5 rfl rfl hl ?_|refine Z3 (Zb c1) rfl ?_|refine Z3 (Zb c2) rfl ?_|refine Z0 rfl ?_|refine Z2 ?_|refine Zh rfl ?_)
theorem run_rName {s:List UInt8} (hs:s.length≤140737488355328):T.R (.call Zat [.str s] (.bool (Zoh s))):=by
 have hl:=rname_loop hs s [] rfl
 cases s with
 |nil=>
  refine Z7 rfl rfl ?_
  repeat' first|((with_reducible show V _ _ _ _ _ _);first|refine Z1 rfl ?_|refine Za rfl rfl ?_|refine Z6 rfl rfl ?_)|((with_reducible show VO _ _ _ _ _ _ _);first|refine Z0 rfl ?_|refine Z2 ?_|refine Zk rfl rfl ?_)
  rfl
 |cons c r=>
  have hne:¬(c::r)=[]:=by simp
  have hch:(c::r)[(0:Int).toNat]?=some c:=rfl
  have hlt:=Zqj c
  show T.R (.call Zat [.str (c::r)] (.bool (decide ((c::r).length≤24)&&Zac c&&(c::r).all okC)))
  by_cases hl24:24<(c::r).length
  ·have h1:((24:Int)<((c::r).length:Int)):=by omega
   rw [decide_eq_false (by omega:¬(c::r).length≤24)]
   refine Z7 rfl rfl ?_
   repeat' first|((with_reducible show V _ _ _ _ _ _);first|refine Z1 rfl ?_|refine Za rfl rfl ?_|refine Z6 rfl rfl ?_)|((with_reducible show VO _ _ _ _ _ _ _);first|refine Z3 (Zb hne) rfl ?_|refine Z3 (Z0f h1) rfl ?_|refine Z0 rfl ?_|refine Z2 ?_|refine Zh rfl ?_|refine Zk rfl rfl ?_)
   rfl
  ·have h1:¬((24:Int)<((c::r).length:Int)):=by omega
   rw [decide_eq_true (by omega:(c::r).length≤24)]
   cases hL:Zac c with
   |false=>
    rw [hL] at hlt
    refine Z7 rfl rfl ?_
    repeat' first|((with_reducible show V _ _ _ _ _ _);first|refine Z1 rfl ?_|refine Za rfl rfl ?_|refine Z6 rfl rfl ?_)|((with_reducible show VO _ _ _ _ _ _ _);first|refine Z3 (Zb hne) rfl ?_|refine Z3 (Zb h1) rfl ?_|refine Zn4 c rfl rfl (by decide) hch ?_|refine Z5 rfl rfl hlt ?_|refine Z0 rfl ?_|refine Z2 ?_|refine Zh rfl ?_)
    rfl
   |true=>
    rw [hL] at hlt
    refine Z7 rfl rfl ?_
    repeat' first|((with_reducible show V _ _ _ _ _ _);first|refine Z08 rfl hl ⟨rfl, rfl, trivial⟩ ?_|refine Z1 rfl ?_|refine Z9 rfl rfl ?_)|((with_reducible show VO _ _ _ _ _ _ _);first|refine Z3 (Zb hne) rfl ?_|refine Z3 (Zb h1) rfl ?_|refine Zn4 c rfl rfl (by decide) hch ?_|refine Z5 rfl rfl hlt ?_|refine Z0 rfl ?_|refine Z2 ?_|refine Zh rfl ?_)
    rintro x e' st' ⟨rfl, ⟨rfl, h⟩|⟨rfl, h, rfl⟩⟩
    ·rw [h]
     repeat' first|refine Z1 rfl ?_|refine Z6 rfl rfl ?_|refine Z0 rfl ?_|refine Z2 ?_
     rfl
    ·rw [h]
     repeat' first|refine Z6 rfl rfl ?_
     rfl
theorem sliceMid {pre cur rest:List UInt8} {k k':IntKind}:sliceStr? (some (.int k (pre.length:Int))) (some (.int k' ((pre.length+cur.length:Nat):Int))) (.str (pre++cur++rest))=some (.str cur):=by
 have h1:((0:Int)≤((pre.length+cur.length:Nat):Int)∧((pre.length+cur.length:Nat):Int)≤(pre++cur++rest).length):=by simp;omega
 have h2:((0:Int)≤(pre.length:Int)∧(pre.length:Int)≤((pre.length+cur.length:Nat):Int)):=by omega
 simp only [sliceStr?, Z5p?, Option.bind_some]
 rw [if_pos (by simp;omega)]
 simp only [Option.bind_some, Int.toNat_natCast]
 rw [if_pos (by omega)]
 simp
theorem rsplit_loop {s:List UInt8} (hs:s.length≤1000000):∀(rest pre cur:List UInt8) (acc:List (List UInt8)) (st:St) (v:PV), s=pre++cur++rest→(32:UInt8)∉cur→acc.length≤pre.length→AccT 1 st v (acc.map sc)→
  V T (PE fun x e st'=>x=.exit 0∧∃v', e=Ze [(3, v')]∧AccT 1 st' v' ((acc++Z0u 32 (cur++rest)).map sc)) [.code (.loop Z5v)] .normal (Ze [(0, .str s), (3, v), (4, .int .i64 pre.length), (5, .int .i64 ((pre.length+cur.length:Nat):Int))]) st:=by
 intro rest
 induction rest with
 |nil=>
  intro pre cur acc st v ha hn hal hA
  have hle:((pre.length+cur.length:Nat):Int)≤s.length:=by subst ha;simp
  have heq:((pre.length+cur.length:Nat):Int)=s.length:=by subst ha;simp
  have hsl:sliceStr? (some (.int .i64 (pre.length:Int))) (some (.int .i64 ((pre.length+cur.length:Nat):Int))) (.str s)=some (.str cur):=by rw [ha];exact sliceMid
  have hps:pre.length≤1000000:=by rw [ha] at hs;simp at hs;omega
  obtain ⟨v', st', k1, k2, k3⟩:=hA.grow (bytes:=16) (src:=[sc cur]) (by simp) (by simp only [List.length_map, List.length_singleton, Z05];omega)
  have hf:acc.map sc++[sc cur]=(acc++Z0u 32 (cur++[])).map sc:=by rw [List.append_nil, Zh9 hn];simp
  rw [hf] at k2
  have hw:IntKind.i64.wrap (((pre.length+cur.length:Nat):Int)+1)=((s.length+1:Nat):Int):=by rw [Z01];omega
  have hgt:¬((IntKind.i64.wrap (((pre.length+cur.length:Nat):Int)+1))≤(s.length:Int)):=by rw [hw];omega
  refine Zf ?_
  repeat' first|((with_reducible show V _ _ _ _ _ _);first|refine Z2s rfl rfl hle ?_|refine Ze4 rfl rfl hgt ?_|refine Z9x rfl (Zf ?_)|refine Zr [(3, v')] rfl ⟨rfl, trivial⟩ ⟨rfl, v', rfl, k2⟩|refine Z1 rfl ?_|refine Za rfl rfl ?_)|((with_reducible show VO _ _ _ _ _ _ _);first|refine Z3 (Z0f heq) rfl ?_|refine Z0 hsl ?_|refine Z25 rfl rfl rfl rfl (by decide) (by decide) k1 ?_|refine Z0 rfl ?_|refine Z2 ?_|refine Zk rfl rfl ?_)
 |cons b rest ih=>
  intro pre cur acc st v ha hn hal hA
  have hle:((pre.length+cur.length:Nat):Int)≤s.length:=by subst ha;simp;omega
  have hne:¬((pre.length+cur.length:Nat):Int)=s.length:=by subst ha;simp;omega
  have hch:s[(((pre.length+cur.length:Nat):Int)).toNat]?=some b:=by
   subst ha
   rw [Int.toNat_natCast, List.getElem?_append_right (by simp)]
   simp
  have hps:pre.length+cur.length≤1000000:=by rw [ha] at hs;simp at hs;omega
  by_cases hb:b=32
  ·subst hb
   have hsl:sliceStr? (some (.int .i64 (pre.length:Int))) (some (.int .i64 ((pre.length+cur.length:Nat):Int))) (.str s)=some (.str cur):=by rw [ha];exact sliceMid
   obtain ⟨v', st', k1, k2, k3⟩:=hA.grow (bytes:=16) (src:=[sc cur]) (by simp) (by simp only [List.length_map, List.length_singleton, Z05];omega)
   have hf:acc.map sc++[sc cur]=(acc++[cur]).map sc:=by simp
   rw [hf] at k2
   have hi:=ih (pre++cur++[32]) [] (acc++[cur]) st' v' (by rw [ha];simp) (by simp) (by simp;omega) k2
   have hw1:IntKind.i64.wrap (((pre.length+cur.length:Nat):Int)+1)=((pre++cur++[(32:UInt8)]).length:Int):=by rw [Z01];simp;omega
   have hw2:IntKind.i64.wrap (((pre.length+cur.length:Nat):Int)+1)=(((pre++cur++[(32:UInt8)]).length+([]:List UInt8).length:Nat):Int):=by rw [hw1];simp
   have e32:PV.bool (decide (((32:UInt8).toNat:Int)=32))=PV.bool true:=rfl
   have hres:acc++[cur]++Z0u 32 ([]++rest)=acc++Z0u 32 (cur++32::rest):=by rw [Zkm hn];simp
   rw [hres] at hi
   refine Zf ?_
   repeat' first|((with_reducible show V _ _ _ _ _ _);first|refine Z2s rfl rfl hle ?_|refine Z7z rfl hi ⟨rfl, rfl, Z04 hw1, Z04 hw2, trivial⟩|refine Z1 rfl ?_|refine Za rfl rfl ?_)|((with_reducible show VO _ _ _ _ _ _ _);first|refine Z3 (Zb hne) rfl ?_|refine Zn4 32 rfl rfl (by omega) hch ?_|refine Z3 e32 rfl ?_|refine Z0 hsl ?_|refine Z25 rfl rfl rfl rfl (by decide) (by decide) k1 ?_|refine Z0 rfl ?_|refine Z2 ?_|refine Zh rfl ?_)
  ·have hi:=ih pre (cur++[b]) acc st v (by rw [ha];simp) (by simp [hn, Ne.symm hb]) hal hA
   have hw2:IntKind.i64.wrap (((pre.length+cur.length:Nat):Int)+1)=((pre.length+(cur++[b]).length:Nat):Int):=by rw [Z01];simp;omega
   have h32:¬((b.toNat:Int)=32):=fun h=>hb (UInt8.toNat_inj.1 (by have:(32:UInt8).toNat=32:=rfl;omega))
   have hres:cur++[b]++rest=cur++b::rest:=by simp
   rw [hres] at hi
   refine Zf ?_
   repeat' first|((with_reducible show V _ _ _ _ _ _);first|refine Z2s rfl rfl hle ?_|refine Z7z rfl hi ⟨rfl, rfl, rfl, Z04 hw2, trivial⟩|refine Z1 rfl ?_|refine Z9 rfl rfl ?_)|((with_reducible show VO _ _ _ _ _ _ _);first|refine Z3 (Zb hne) rfl ?_|refine Zn4 b rfl rfl (by omega) hch ?_|refine Z3 (Zb h32) rfl ?_|refine Z0 rfl ?_|refine Z2 ?_|refine Zh rfl ?_)
theorem splitB_ne (c:UInt8):∀s:List UInt8, Z0u c s≠[]
 |[]=>by simp [Z0u]
 |b::l=>by
  rw [Z0u]
  split
  ·simp
  ·split<;>simp
theorem run_rsplit {s:List UInt8} (hs:s.length≤1000000):T.R (.call Z9o [.str s] (.sl ((Z0u 32 s).map sc) false)):=by
 have hl:=rsplit_loop hs s [] [] [] emptySt .nilSl rfl (by simp) (by simp) (.inl ⟨rfl, rfl⟩)
 refine Z7 rfl rfl ?_
 repeat' first|refine Z08 rfl hl ⟨rfl, rfl, rfl, rfl, trivial⟩ ?_|refine Z1 rfl ?_|refine Z0 rfl ?_|refine Z2 ?_
 rintro x e' st' ⟨rfl, v', rfl, hA⟩
 rcases hA with ⟨rfl, h0⟩|⟨t, g, rfl, hg, hlt⟩
 ·exact absurd (by simpa using h0) (splitB_ne 32 s)
 ·repeat' first|refine Z8u rfl rfl (Zio hg (.inl rfl) rfl (pl_sc _)) rfl|refine Z1 rfl ?_|refine Z0 rfl ?_|refine Z2 ?_
theorem Zbf {op:Int} (h:Zn op):T.R (.call Zjv [.int .i64 op] (.str (Ziq op))):=by
 have hs:=run_rsplit (s:=Zqd) (by decide +kernel)
 have h60:=steps_60.1
 unfold Ziq
 generalize Z0u 32 Zqd=W at hs h60 ⊢
 have hv:LV sc (.sl (W.map sc) false) W:=.sl _ _
 have plv:Pl (.sl (W.map sc) false):=.sl _ _ (pl_sc _)
 have hs':T.R (.call Z9o [.str [86, 32, 69, 32, 105, 110, 106, 101, 99, 116, 32, 97, 100, 100, 86, 32, 111, 117, 116, 32, 105, 110, 32, 98, 111, 116, 104, 32, 111, 117, 116, 69, 32, 105, 110, 69, 32, 98, 111, 116, 104, 69, 32, 111, 117, 116, 86, 32, 105, 110, 86, 32, 98, 111, 116, 104, 86, 32, 104, 97, 115, 32, 104, 97, 115, 75, 101, 121, 32, 104, 97, 115, 78, 111, 116, 32, 104, 97, 115, 76, 97, 98, 101, 108, 32, 104, 97, 115, 73, 100, 32, 105, 115, 32, 119, 104, 101, 114, 101, 32, 110, 111, 116, 32, 97, 110, 100, 32, 111, 114, 32, 100, 101, 100, 117, 112, 32, 115, 105, 109, 112, 108, 101, 80, 97, 116, 104, 32, 108, 105, 109, 105, 116, 32, 115, 107, 105, 112, 32, 114, 97, 110, 103, 101, 32, 116, 97, 105, 108, 32, 105, 100, 32, 108, 97, 98, 101, 108, 32, 118, 97, 108, 117, 101, 115, 32, 118, 97, 108, 117, 101, 77, 97, 112, 32, 99, 111, 110, 115, 116, 97, 110, 116, 32, 99, 111, 117, 110, 116, 32, 115, 117, 109, 32, 109, 105, 110, 32, 109, 97, 120, 32, 102, 111, 108, 100, 32, 117, 110, 102, 111, 108, 100, 32, 112, 97, 116, 104, 32, 97, 115, 32, 115, 101, 108, 101, 99, 116, 32, 111, 114, 100, 101, 114, 32, 111, 114, 100, 101, 114, 68, 101, 115, 99, 32, 111, 114, 100, 101, 114, 66, 121, 32, 111, 114, 100, 101, 114, 66, 121, 68, 101, 115, 99, 32, 103, 114, 111, 117, 112, 67, 111, 117, 110, 116, 32, 108, 111, 111, 112, 115, 32, 117, 110, 105, 111, 110, 32, 99, 111, 97, 108, 101, 115, 99, 101, 32, 111, 112, 116, 105, 111, 110, 97, 108, 32, 99, 104, 111, 111, 115, 101, 32, 116, 105, 109, 101, 115, 32, 117, 110, 116, 105, 108, 32, 101, 109, 105, 116, 32, 97, 100, 100, 69, 32, 112, 114, 111, 112, 101, 114, 116, 121, 32, 100, 114, 111, 112, 32, 105, 100, 101, 110, 116, 105, 116, 121]] (.sl (W.map sc) false)):=hs
 unfold Znm
 by_cases h1:op<1
 ·rw [if_neg (by omega)]
  refine Z7 rfl rfl ?_
  repeat' first|((with_reducible show V _ _ _ _ _ _);first|refine Z1 rfl ?_|refine Za rfl rfl ?_|refine Z6 rfl rfl ?_)|((with_reducible show VO _ _ _ _ _ _ _);first|refine Z5 rfl rfl hs' ?_|refine Z3 (Z0f h1) rfl ?_|refine Z0 rfl ?_|refine Z2 ?_|refine Zk rfl rfl ?_)
  rfl
 ·by_cases h2:(W.length:Int)<op
  ·rw [if_neg (by omega)]
   refine Z7 rfl rfl ?_
   repeat' first|((with_reducible show V _ _ _ _ _ _);first|refine Z1 rfl ?_|refine Za rfl rfl ?_|refine Z6 rfl rfl ?_)|((with_reducible show VO _ _ _ _ _ _ _);first|refine Z5 rfl rfl hs' ?_|refine Z3 (Zb h1) rfl ?_|refine O_lenL rfl hv ?_|refine Z3 (Z0f h2) rfl ?_|refine Z0 rfl ?_|refine Z2 ?_|refine Zh rfl ?_)
   rfl
  ·rw [if_pos (by omega)]
   have hlt:(op-1).toNat<W.length:=by omega
   have hat:W[(op-1).toNat]?=some W[(op-1).toNat]:=List.getElem?_eq_getElem hlt
   have hw:PV.int .i64 (IntKind.i64.wrap (op-1))=PV.int .i64 (op-1):=Z5e (Zh3 (by unfold Zn at h ⊢;omega))
   rw [hat]
   refine Z7 rfl rfl ?_
   repeat' first|((with_reducible show V _ _ _ _ _ _);first|refine Z1 rfl ?_|refine Z9 rfl rfl ?_|refine Z6 rfl rfl ?_)|((with_reducible show VO _ _ _ _ _ _ _);first|refine Z5 rfl rfl hs' ?_|refine Z3 (Zb h1) rfl ?_|refine O_lenL rfl hv ?_|refine Z3 (Zb h2) rfl ?_|refine Z3 hw rfl ?_|refine O_idxL _ rfl hv rfl (by omega) hat rfl ?_|refine Z0 rfl ?_|refine Z2 ?_|refine Zh rfl ?_)
   rfl
def rshp (l:List Int):List Int:=match l with
 |[a, b, c, d, e, _, g, h, i, j]=>[a, b, c, d, e, g, h, i, j]
 |_=>[]
set_option maxHeartbeats 4000000 in
theorem run_rshape (op:Int):T.R (.call Zhw [.int .i64 op] (.agg ((rshp (shp op)).map intP))):=by
 refine Z7 rfl rfl ?_
 repeat' first|((with_reducible show V _ _ _ _ _ _);first|refine Za rfl rfl ?_|refine V_cS rfl rfl (fun _=>?_) (fun _=>?_)|refine Z1 rfl ?_|refine Z6 rfl rfl ?_)|((with_reducible show VO _ _ _ _ _ _ _);first|refine Z0 rfl ?_|refine Zc rfl ?_|refine Z2 ?_)
 all_goals simp only [decide_eq_true_eq, decide_eq_false_iff_not] at *
 all_goals first|(subst_vars;rfl)|(unfold shp;simp only [*, or_self, if_false];rfl)
theorem Zc5 (n:Nat) (a b:Int):T.R (.call Zg7 [.int .i64 n, .int .i64 a, .int .i64 b] (.bool (Zcp a b n))):=by
 unfold Zcp
 refine Z7 rfl rfl ?_
 repeat' first|refine Z1 rfl ?_|refine Z6 rfl rfl ?_|((with_reducible show VO _ _ _ _ _ _ _);first|refine Z0 rfl ?_|refine Z2 ?_|refine Zh rfl ?_|refine Zk rfl rfl ?_|refine Zba rfl (fun _=>?_) (fun _=>?_))
 all_goals simp_all
 all_goals omega
theorem rvalues_loop {p:PV} {l:List Val} (hp:LR VC p l):∀(rest pre:List Val), l=pre++rest→
  V T (PE fun x e st'=>st'=emptySt∧((x=.exit 0∧rest.all (Zp 8)=true)∨(x=.ret∧rest.all (Zp 8)=false∧e=Ze [(2, .bool false)])))
   [.code (.loop Z59)] .normal (Ze [(0, p), (3, .int .i64 pre.length)]) emptySt:=by
 have plp:Pl p:=hp.pl fun _ _ _ h=>h.pl
 obtain ⟨lp1, lp2, lp3⟩:=hp.len
 intro rest
 induction rest with
 |nil=>
  intro pre ha
  have hlt:¬(pre.length:Int)<l.length:=by subst ha;simp
  refine Zf ?_
  repeat' first|((with_reducible show V _ _ _ _ _ _);first|refine Ze4 rfl rfl hlt ?_|refine Zr [] rfl trivial ⟨rfl, .inl ⟨rfl, rfl⟩⟩|refine Z1 rfl ?_)|((with_reducible show VO _ _ _ _ _ _ _);first|refine Z4 rfl lp1 lp2 ?_|refine Z0 rfl ?_|refine Z2 ?_)
 |cons y rest ih=>
  intro pre ha
  have hlt:(pre.length:Int)<l.length:=by subst ha;simp;omega
  have hll:pre.length<l.length:=by subst ha;simp
  have hy:l[pre.length]?=some y:=by subst ha;simp
  obtain ⟨cy, ay, hc⟩:=hp.at (sz:=4) (fun _ _ h=>h.len4) hy
  have plc:=hc.pl
  have len4:=hc.len4
  have hcall:=run_Check2 hc
  unfold chk at hcall
  have hw:IntKind.i64.wrap ((pre.length:Int)+1)=((pre++[y]).length:Int):=by rw [Z01];simp;omega
  have hi:=ih (pre++[y]) (by rw [ha];simp)
  rw [List.all_cons]
  refine Zf ?_
  cases hm:Zp 8 y with
  |true=>
   have hcall':T.R (.call Z4c [.agg cy] (.int .i64 0)):=by rw [hm] at hcall;exact hcall
   rw [Bool.true_and]
   repeat' first|((with_reducible show V _ _ _ _ _ _);first|refine Z2s rfl rfl hlt ?_|refine Z7z rfl hi ⟨rfl, Z04 hw, trivial⟩|refine Z1 rfl ?_|refine Z9 rfl rfl ?_)|((with_reducible show VO _ _ _ _ _ _ _);first|refine Z4 rfl lp1 lp2 ?_|refine Zg rfl rfl ay ?_|refine Z07 rfl len4 ?_|refine Z5 rfl rfl hcall' ?_|refine Z0 rfl ?_|refine Z2 ?_)
  |false=>
   have hcall':T.R (.call Z4c [.agg cy] (.int .i64 20)):=by rw [hm] at hcall;exact hcall
   repeat' first|((with_reducible show V _ _ _ _ _ _);first|refine Z2s rfl rfl hlt ?_|refine Zr [(2, .bool false)] rfl ⟨rfl, trivial⟩ ⟨rfl, .inr ⟨rfl, rfl, rfl⟩⟩|refine Z1 rfl ?_|refine Za rfl rfl ?_)|((with_reducible show VO _ _ _ _ _ _ _);first|refine Z4 rfl lp1 lp2 ?_|refine Zg rfl rfl ay ?_|refine Z07 rfl len4 ?_|refine Z5 rfl rfl hcall' ?_|refine Z0 rfl ?_|refine Z2 ?_)
theorem Znt {p:PV} {l:List Val} (hp:LR VC p l):T.R (.call Zg8 [p] (.bool (l.all (Zp 8)))):=by
 have hl:=rvalues_loop hp l [] rfl
 refine Z7 rfl rfl ?_
 repeat' first|refine Z08 rfl hl ⟨rfl, rfl, trivial⟩ ?_|refine Z1 rfl ?_|refine Z0 rfl ?_|refine Z2 ?_
 rintro x e' st' ⟨rfl, ⟨rfl, h⟩|⟨rfl, h, rfl⟩⟩
 ·rw [h]
  repeat' first|refine Z1 rfl ?_|refine Z6 rfl rfl ?_|refine Z0 rfl ?_|refine Z2 ?_
  rfl
 ·rw [h]
  repeat' first|refine Z6 rfl rfl ?_
  rfl
set_option maxHeartbeats 4000000 in
theorem run_rpred {x:Prd} {cs:List PV} (h:PrC x cs):T.R (.call Zas [.agg cs] (.bool (Zft x))):=by
 obtain ⟨op, l⟩:=x
 obtain ⟨ho, p, rfl, hp⟩:=h
 have plp:Pl p:=hp.pl fun _ _ _ h=>h.pl
 obtain ⟨lp1, lp2, lp3⟩:=hp.len
 have hv:=Znt hp
 show T.R (.call Zas [.agg [.int .i64 op, p]] (.bool ((decide (1≤op)&&decide (op≤9))&&Zcp (Zpv op).1 (Zpv op).2 l.length&&l.all (Zp 8))))
 generalize l.all (Zp 8)=b at hv ⊢
 by_cases k1:1≤op∧op≤6
 ·have ho1:Zpv op=(1, 1):=by unfold Zpv;rw [if_neg (by omega), if_neg (by omega)]
  rw [ho1, decide_eq_true k1.1, decide_eq_true (by omega:op≤9)]
  by_cases c:(l.length:Int)=1
  ·rw [show Zcp 1 1 l.length=true by unfold Zcp;rw [decide_eq_true (by omega), decide_eq_true (by omega)];rfl]
   refine Z7 rfl rfl ?_
   repeat' first|((with_reducible show V _ _ _ _ _ _);first|refine Z1 rfl ?_|refine Za rfl rfl ?_|refine Z9 rfl rfl ?_|refine Z6 rfl rfl ?_)|((with_reducible show VO _ _ _ _ _ _ _);first|refine Zc rfl ?_|refine Z4 rfl lp1 lp2 ?_|refine Z3 (Z0f k1.1) rfl ?_|refine Z3 (Z0f k1.2) rfl ?_|refine Z3 (Z0k c) rfl ?_|refine Z5 rfl rfl hv ?_|refine Z0 rfl ?_|refine Z2 ?_|refine Zh rfl ?_)
   rfl
  ·rw [show Zcp 1 1 l.length=false by unfold Zcp;simp only [Bool.and_eq_false_iff, decide_eq_false_iff_not];omega]
   refine Z7 rfl rfl ?_
   repeat' first|((with_reducible show V _ _ _ _ _ _);first|refine Z1 rfl ?_|refine Za rfl rfl ?_|refine Z6 rfl rfl ?_)|((with_reducible show VO _ _ _ _ _ _ _);first|refine Zc rfl ?_|refine Z4 rfl lp1 lp2 ?_|refine Z3 (Z0f k1.1) rfl ?_|refine Z3 (Z0f k1.2) rfl ?_|refine Z3 (Z0e c) rfl ?_|refine Z0 rfl ?_|refine Z2 ?_|refine Zh rfl ?_)
   rfl
 ·by_cases k9:op=9
  ·subst k9
   rw [show Zpv 9=(2, 2) from rfl]
   by_cases c:(l.length:Int)=2
   ·rw [show Zcp 2 2 l.length=true by unfold Zcp;rw [decide_eq_true (by omega), decide_eq_true (by omega)];rfl]
    refine Z7 rfl rfl ?_
    repeat' first|((with_reducible show V _ _ _ _ _ _);first|refine Z1 rfl ?_|refine Za rfl rfl ?_|refine Z9 rfl rfl ?_|refine Z6 rfl rfl ?_)|((with_reducible show VO _ _ _ _ _ _ _);first|refine Zc rfl ?_|refine Z4 rfl lp1 lp2 ?_|refine Z3 (Z0k c) rfl ?_|refine Z5 rfl rfl hv ?_|refine Z0 rfl ?_|refine Z2 ?_|refine Zh rfl ?_)
    rfl
   ·rw [show Zcp 2 2 l.length=false by unfold Zcp;simp only [Bool.and_eq_false_iff, decide_eq_false_iff_not];omega]
    refine Z7 rfl rfl ?_
    repeat' first|((with_reducible show V _ _ _ _ _ _);first|refine Z1 rfl ?_|refine Za rfl rfl ?_|refine Z9 rfl rfl ?_|refine Z6 rfl rfl ?_)|((with_reducible show VO _ _ _ _ _ _ _);first|refine Zc rfl ?_|refine Z4 rfl lp1 lp2 ?_|refine Z3 (Z0e c) rfl ?_|refine Z0 rfl ?_|refine Z2 ?_|refine Zh rfl ?_)
    rfl
  ·by_cases k78:op=7∨op=8
   ·have ho1:Zpv op=(0, 32):=by unfold Zpv;rw [if_pos k78]
    rw [ho1, decide_eq_true (by omega:1≤op), decide_eq_true (by omega:op≤9)]
    by_cases c:(32:Int)<(l.length:Int)
    ·rw [show Zcp 0 32 l.length=false by unfold Zcp;simp only [Bool.and_eq_false_iff, decide_eq_false_iff_not];omega]
     rcases k78 with rfl|rfl
     all_goals refine Z7 rfl rfl ?_
     all_goals repeat' first|((with_reducible show V _ _ _ _ _ _);first|refine Z1 rfl ?_|refine Za rfl rfl ?_|refine Z9 rfl rfl ?_|refine Z6 rfl rfl ?_)|((with_reducible show VO _ _ _ _ _ _ _);first|refine Zc rfl ?_|refine Z4 rfl lp1 lp2 ?_|refine Z3 (Z0f c) rfl ?_|refine Z0 rfl ?_|refine Z2 ?_|refine Zh rfl ?_|refine Zk rfl rfl ?_)
     all_goals rfl
    ·rw [show Zcp 0 32 l.length=true by unfold Zcp;rw [decide_eq_true (by omega), decide_eq_true (by omega)];rfl]
     rcases k78 with rfl|rfl
     all_goals refine Z7 rfl rfl ?_
     all_goals repeat' first|((with_reducible show V _ _ _ _ _ _);first|refine Z1 rfl ?_|refine Z9 rfl rfl ?_|refine Z6 rfl rfl ?_)|((with_reducible show VO _ _ _ _ _ _ _);first|refine Zc rfl ?_|refine Z4 rfl lp1 lp2 ?_|refine Z3 (Zb c) rfl ?_|refine Z5 rfl rfl hv ?_|refine Z0 rfl ?_|refine Z2 ?_|refine Zh rfl ?_|refine Zk rfl rfl ?_)
     all_goals rfl
   ·have n7:¬op=7:=fun e=>k78 (.inl e)
    have n8:¬op=8:=fun e=>k78 (.inr e)
    rw [show (decide (1≤op)&&decide (op≤9))=false by simp only [Bool.and_eq_false_iff, decide_eq_false_iff_not];omega]
    refine Z7 rfl rfl ?_
    by_cases g1:1≤op
    ·have g2:¬op≤6:=fun e=>k1 ⟨g1, e⟩
     repeat' first|((with_reducible show V _ _ _ _ _ _);first|refine Z1 rfl ?_|refine Za rfl rfl ?_|refine Z9 rfl rfl ?_|refine Z6 rfl rfl ?_)|((with_reducible show VO _ _ _ _ _ _ _);first|refine Zc rfl ?_|refine Z4 rfl lp1 lp2 ?_|refine Z3 (Z0f g1) rfl ?_|refine Z3 (Zb g2) rfl ?_|refine Z3 (Zb k9) rfl ?_|refine Z3 (Z0e n7) rfl ?_|refine Z3 (Z0e n8) rfl ?_|refine Z0 rfl ?_|refine Z2 ?_|refine Zh rfl ?_|refine Zk rfl rfl ?_)
     rfl
    ·repeat' first|((with_reducible show V _ _ _ _ _ _);first|refine Z1 rfl ?_|refine Za rfl rfl ?_|refine Z9 rfl rfl ?_|refine Z6 rfl rfl ?_)|((with_reducible show VO _ _ _ _ _ _ _);first|refine Zc rfl ?_|refine Z4 rfl lp1 lp2 ?_|refine Z3 (Zb g1) rfl ?_|refine Z3 (Zb k9) rfl ?_|refine Z3 (Z0e n7) rfl ?_|refine Z3 (Z0e n8) rfl ?_|refine Z0 rfl ?_|refine Z2 ?_|refine Zh rfl ?_|refine Zk rfl rfl ?_)
     rfl
def stR (cs sh:List PV):St:=⟨0, 2, [(0, .var cs), (1, .var sh)]⟩
theorem rnames_loop {op:Int} {pa pb pc pd pe:PV} {names:List (List UInt8)} (sh:List PV) (hp:LR NmC pa names):∀(rest pre:List (List UInt8)), names=pre++rest→
  V T (PE fun x e st'=>st'=stR [.int .i64 op, pa, pb, pc, pd, pe] sh∧((x=.exit 0∧rest.all Zoh=true∧e=Ze [(1, .ptr 0 0)])∨(x=.ret∧rest.all Zoh=false∧e=Ze [(2, .bool false)])))
   [.code (.loop Z77)] .normal (Ze [(1, .ptr 0 0), (4, .int .i64 pre.length)]) (stR [.int .i64 op, pa, pb, pc, pd, pe] sh):=by
 obtain ⟨lp1, lp2, lp3⟩:=hp.len
 intro rest
 induction rest with
 |nil=>
  intro pre ha
  have hlt:¬(pre.length:Int)<names.length:=by subst ha;simp
  refine Zf ?_
  repeat' first|((with_reducible show V _ _ _ _ _ _);first|refine Ze4 rfl rfl hlt ?_|refine Zr [(1, .ptr 0 0)] rfl ⟨rfl, trivial⟩ ⟨rfl, .inl ⟨rfl, rfl, rfl⟩⟩|refine Z1 rfl ?_)|((with_reducible show VO _ _ _ _ _ _ _);first|refine Z4 rfl lp1 lp2 ?_|refine Z0 rfl ?_|refine Z2 ?_)
 |cons y rest ih=>
  intro pre ha
  have hlt:(pre.length:Int)<names.length:=by subst ha;simp;omega
  have hll:pre.length<names.length:=by subst ha;simp
  have hy:names[pre.length]?=some y:=by subst ha;simp
  obtain ⟨cy, ay, hs, rfl⟩:=hp.at (sz:=1) (fun _ _ h=>h.len1) hy
  have hcall:=run_rName hs
  have hw:IntKind.i64.wrap ((pre.length:Int)+1)=((pre++[y]).length:Int):=by rw [Z01];simp;omega
  have hi:=ih (pre++[y]) (by rw [ha];simp)
  rw [List.all_cons]
  refine Zf ?_
  cases hm:Zoh y with
  |true=>
   rw [hm] at hcall
   rw [Bool.true_and]
   repeat' first|((with_reducible show V _ _ _ _ _ _);first|refine Z2s rfl rfl hlt ?_|refine Z7z rfl hi ⟨rfl, Z04 hw, trivial⟩|refine Z1 rfl ?_|refine Z9 rfl rfl ?_)|((with_reducible show VO _ _ _ _ _ _ _);first|refine Z4 rfl lp1 lp2 ?_|refine Zg rfl rfl ay ?_|refine Z5 rfl rfl hcall ?_|refine Z0 rfl ?_|refine Z2 ?_)
  |false=>
   rw [hm] at hcall
   repeat' first|((with_reducible show V _ _ _ _ _ _);first|refine Z2s rfl rfl hlt ?_|refine Zr [(2, .bool false)] rfl ⟨rfl, trivial⟩ ⟨rfl, .inr ⟨rfl, rfl, rfl⟩⟩|refine Z1 rfl ?_|refine Za rfl rfl ?_)|((with_reducible show VO _ _ _ _ _ _ _);first|refine Z4 rfl lp1 lp2 ?_|refine Zg rfl rfl ay ?_|refine Z5 rfl rfl hcall ?_|refine Z0 rfl ?_|refine Z2 ?_)
theorem rnums_loop {op:Int} {pa pb pc pd pe:PV} {nums:List Int} (sh:List PV) (hp:LR NuC pb nums):∀(rest pre:List Int), nums=pre++rest→
  V T (PE fun x e st'=>st'=stR [.int .i64 op, pa, pb, pc, pd, pe] sh∧((x=.exit 2∧rest.all Zoe=true∧e=Ze [(1, .ptr 0 0)])∨(x=.ret∧rest.all Zoe=false∧e=Ze [(2, .bool false)])))
   [.code (.loop Z78)] .normal (Ze [(1, .ptr 0 0), (5, .int .i64 pre.length)]) (stR [.int .i64 op, pa, pb, pc, pd, pe] sh):=by
 obtain ⟨lp1, lp2, lp3⟩:=hp.len
 intro rest
 induction rest with
 |nil=>
  intro pre ha
  have hlt:¬(pre.length:Int)<nums.length:=by subst ha;simp
  refine Zf ?_
  repeat' first|((with_reducible show V _ _ _ _ _ _);first|refine Ze4 rfl rfl hlt ?_|refine Zr [(1, .ptr 0 0)] rfl ⟨rfl, trivial⟩ ⟨rfl, .inl ⟨rfl, rfl, rfl⟩⟩|refine Z1 rfl ?_)|((with_reducible show VO _ _ _ _ _ _ _);first|refine Z4 rfl lp1 lp2 ?_|refine Z0 rfl ?_|refine Z2 ?_)
 |cons y rest ih=>
  intro pre ha
  have hlt:(pre.length:Int)<nums.length:=by subst ha;simp;omega
  have hll:pre.length<nums.length:=by subst ha;simp
  have hy:nums[pre.length]?=some y:=by subst ha;simp
  obtain ⟨cy, ay, hs, rfl⟩:=hp.at (sz:=1) (fun _ _ h=>h.len1) hy
  have hw:IntKind.i64.wrap ((pre.length:Int)+1)=((pre++[y]).length:Int):=by rw [Z01];simp;omega
  have hi:=ih (pre++[y]) (by rw [ha];simp)
  rw [List.all_cons]
  refine Zf ?_
  by_cases c1:y<0
  ·rw [show Zoe y=false by unfold Zoe;simp only [Bool.and_eq_false_iff, decide_eq_false_iff_not];omega]
   repeat' first|((with_reducible show V _ _ _ _ _ _);first|refine Z2s rfl rfl hlt ?_|refine Zr [(2, .bool false)] rfl ⟨rfl, trivial⟩ ⟨rfl, .inr ⟨rfl, rfl, rfl⟩⟩|refine Z1 rfl ?_|refine Za rfl rfl ?_)|((with_reducible show VO _ _ _ _ _ _ _);first|refine Z4 rfl lp1 lp2 ?_|refine Zg rfl rfl ay ?_|refine Z3 (Z0f c1) rfl ?_|refine Z0 rfl ?_|refine Z2 ?_|refine Zk rfl rfl ?_)
  ·by_cases c2:9007199254740992<y
   ·rw [show Zoe y=false by unfold Zoe;simp only [Bool.and_eq_false_iff, decide_eq_false_iff_not];omega]
    repeat' first|((with_reducible show V _ _ _ _ _ _);first|refine Z2s rfl rfl hlt ?_|refine Zr [(2, .bool false)] rfl ⟨rfl, trivial⟩ ⟨rfl, .inr ⟨rfl, rfl, rfl⟩⟩|refine Z1 rfl ?_|refine Za rfl rfl ?_)|((with_reducible show VO _ _ _ _ _ _ _);first|refine Z4 rfl lp1 lp2 ?_|refine Zg rfl rfl ay ?_|refine Z3 (Zb c1) rfl ?_|refine Z3 (Z0f c2) rfl ?_|refine Z0 rfl ?_|refine Z2 ?_|refine Zh rfl ?_)
   ·rw [show Zoe y=true by unfold Zoe;rw [decide_eq_true (by omega), decide_eq_true (by omega)];rfl, Bool.true_and]
    repeat' first|((with_reducible show V _ _ _ _ _ _);first|refine Z2s rfl rfl hlt ?_|refine Z7z rfl hi ⟨rfl, Z04 hw, trivial⟩|refine Z1 rfl ?_|refine Z9 rfl rfl ?_)|((with_reducible show VO _ _ _ _ _ _ _);first|refine Z4 rfl lp1 lp2 ?_|refine Zg rfl rfl ay ?_|refine Z3 (Zb c1) rfl ?_|refine Z3 (Zb c2) rfl ?_|refine Z0 rfl ?_|refine Z2 ?_|refine Zh rfl ?_)
theorem rpreds_loop {op:Int} {pa pb pc pd pe:PV} {preds:List Prd} (sh:List PV) (hp:LR PrC pc preds):∀(rest pre:List Prd), preds=pre++rest→
  V T (PE fun x e st'=>st'=stR [.int .i64 op, pa, pb, pc, pd, pe] sh∧((x=.exit 4∧rest.all Zft=true∧e=Ze [(1, .ptr 0 0)])∨(x=.ret∧rest.all Zft=false∧e=Ze [(2, .bool false)])))
   [.code (.loop Z79)] .normal (Ze [(1, .ptr 0 0), (6, .int .i64 pre.length)]) (stR [.int .i64 op, pa, pb, pc, pd, pe] sh):=by
 obtain ⟨lp1, lp2, lp3⟩:=hp.len
 intro rest
 induction rest with
 |nil=>
  intro pre ha
  have hlt:¬(pre.length:Int)<preds.length:=by subst ha;simp
  refine Zf ?_
  repeat' first|((with_reducible show V _ _ _ _ _ _);first|refine Ze4 rfl rfl hlt ?_|refine Zr [(1, .ptr 0 0)] rfl ⟨rfl, trivial⟩ ⟨rfl, .inl ⟨rfl, rfl, rfl⟩⟩|refine Z1 rfl ?_)|((with_reducible show VO _ _ _ _ _ _ _);first|refine Z4 rfl lp1 lp2 ?_|refine Z0 rfl ?_|refine Z2 ?_)
 |cons y rest ih=>
  intro pre ha
  have hlt:(pre.length:Int)<preds.length:=by subst ha;simp;omega
  have hll:pre.length<preds.length:=by subst ha;simp
  have hy:preds[pre.length]?=some y:=by subst ha;simp
  obtain ⟨cy, ay, hc⟩:=hp.at (sz:=2) (fun _ _ h=>h.len2) hy
  have plc:=hc.pl
  have len2:=hc.len2
  have hcall:=run_rpred hc
  have hw:IntKind.i64.wrap ((pre.length:Int)+1)=((pre++[y]).length:Int):=by rw [Z01];simp;omega
  have hi:=ih (pre++[y]) (by rw [ha];simp)
  rw [List.all_cons]
  refine Zf ?_
  cases hm:Zft y with
  |true=>
   rw [hm] at hcall
   rw [Bool.true_and]
   repeat' first|((with_reducible show V _ _ _ _ _ _);first|refine Z2s rfl rfl hlt ?_|refine Z7z rfl hi ⟨rfl, Z04 hw, trivial⟩|refine Z1 rfl ?_|refine Z9 rfl rfl ?_)|((with_reducible show VO _ _ _ _ _ _ _);first|refine Z4 rfl lp1 lp2 ?_|refine Zg rfl rfl ay ?_|refine Z07 rfl len2 ?_|refine Z5 rfl rfl hcall ?_|refine Z0 rfl ?_|refine Z2 ?_)
  |false=>
   rw [hm] at hcall
   repeat' first|((with_reducible show V _ _ _ _ _ _);first|refine Z2s rfl rfl hlt ?_|refine Zr [(2, .bool false)] rfl ⟨rfl, trivial⟩ ⟨rfl, .inr ⟨rfl, rfl, rfl⟩⟩|refine Z1 rfl ?_|refine Za rfl rfl ?_)|((with_reducible show VO _ _ _ _ _ _ _);first|refine Z4 rfl lp1 lp2 ?_|refine Zg rfl rfl ay ?_|refine Z07 rfl len2 ?_|refine Z5 rfl rfl hcall ?_|refine Z0 rfl ?_|refine Z2 ?_)
theorem ite_ef {p:Prop} [Decidable p] {a b:List Int} (h1:a.getD 4 0=a.getD 5 0) (h2:b.getD 4 0=b.getD 5 0):(if p then a else b).getD 4 0=(if p then a else b).getD 5 0:=by
 by_cases h:p
 ·rw [if_pos h];exact h1
 ·rw [if_neg h];exact h2
theorem shp_ef (op:Int):(shp op).getD 4 0=(shp op).getD 5 0:=by
 unfold shp
 repeat (refine ite_ef rfl ?_)
 rfl
theorem has_one (e:Int) (n:Nat):Zcp e e n=decide ((n:Int)=e):=by
 unfold Zcp
 rw [Bool.eq_iff_iff]
 simp only [Bool.and_eq_true, decide_eq_true_eq]
 omega
set_option maxHeartbeats 4000000 in
theorem run_rstep {n:Nat} {op:Int} {names:List (List UInt8)} {nums:List Int} {preds:List Prd} {vals:List Val} {subs:List (List Stp)} {cs:List PV} (h:SC n (.mk op names nums preds vals subs) cs):
  T.R (.call Zju [.agg cs] (.bool (Zh8 op names nums preds vals subs.length))):=by
 cases n with
 |zero=>exact h.elim
 |succ n=>
 have plcs:=h.pl
 obtain ⟨ho, pa, pb, pc, pd, pe, rfl, h1, h2, h3, h4, h5⟩:=h
 have pla:Pl pa:=plcs _ (by simp)
 have plb:Pl pb:=plcs _ (by simp)
 have plc:Pl pc:=plcs _ (by simp)
 have pld:Pl pd:=plcs _ (by simp)
 have ple:Pl pe:=plcs _ (by simp)
 obtain ⟨la1, la2, la3⟩:=h1.len
 obtain ⟨lb1, lb2, lb3⟩:=h2.len
 obtain ⟨lc1, lc2, lc3⟩:=h3.len
 obtain ⟨ld1, ld2, ld3⟩:=h4.len
 obtain ⟨le1, le2, le3⟩:=h5.len
 have hw:=Zbf ho
 have hs:=run_rshape op
 have hef:=shp_ef op
 obtain ⟨a, b, c, d, e, f, g, hh, i, j, hten⟩:=shp_ten op
 rw [hten] at hs hef
 simp only [List.getD_cons_succ, List.getD_cons_zero] at hef
 subst hef
 have l1:=rnames_loop (op:=op) (pb:=pb) (pc:=pc) (pd:=pd) (pe:=pe) [.int .i64 a, .int .i64 b, .int .i64 c, .int .i64 d, .int .i64 e, .int .i64 g, .int .i64 hh, .int .i64 i, .int .i64 j] h1 names [] rfl
 have l2:=rnums_loop (op:=op) (pa:=pa) (pc:=pc) (pd:=pd) (pe:=pe) [.int .i64 a, .int .i64 b, .int .i64 c, .int .i64 d, .int .i64 e, .int .i64 g, .int .i64 hh, .int .i64 i, .int .i64 j] h2 nums [] rfl
 have l3:=rpreds_loop (op:=op) (pa:=pa) (pb:=pb) (pd:=pd) (pe:=pe) [.int .i64 a, .int .i64 b, .int .i64 c, .int .i64 d, .int .i64 e, .int .i64 g, .int .i64 hh, .int .i64 i, .int .i64 j] h3 preds [] rfl
 have l4:=Znt h4
 unfold Zh8 argB
 rw [hten]
 rw [show opB op=!decide (Ziq op=[]) by rw [stepW_ne];simp]
 simp only [rshp, List.map_cons, List.map_nil, intP] at hs ⊢
 have k1:=Zc5 names.length a b
 have k2:=Zc5 nums.length c d
 have k3:=has_one e preds.length
 have k4:=Zc5 vals.length g hh
 have k5:=Zc5 subs.length i j
 rw [k3]
 generalize Ziq op=w at hw ⊢
 generalize Zcp a b names.length=b1 at k1 ⊢
 generalize Zcp c d nums.length=b2 at k2 ⊢
 generalize Zcp g hh vals.length=b4 at k4 ⊢
 generalize Zcp i j subs.length=b5 at k5 ⊢
 generalize names.all Zoh=b6 at l1 ⊢
 generalize nums.all Zoe=b7 at l2 ⊢
 generalize preds.all Zft=b8 at l3 ⊢
 generalize vals.all (Zp 8)=b9 at l4 ⊢
 by_cases hW:w=[]
 ·rw [decide_eq_true hW]
  refine Z7 rfl rfl ?_
  repeat' first|((with_reducible show V _ _ _ _ _ _);first|refine Z1 rfl ?_|refine Za rfl rfl ?_|refine Z6 rfl rfl ?_)|((with_reducible show VO _ _ _ _ _ _ _);first|refine Zc rfl ?_|refine Z5 rfl rfl hw ?_|refine Z3 (Z0f hW) rfl ?_|refine Z0 rfl ?_|refine Z2 ?_)
  rfl
 ·rw [decide_eq_false hW]
  have fail:∀(r:Bool), (b1&&b2&&decide ((preds.length:Int)=e)&&b4&&b5)=false→(!false&&(b1&&b2&&decide ((preds.length:Int)=e)&&b4&&b5)&&b6&&b7&&b8&&b9)=false:=fun r h=>by rw [h];rfl
  refine Z7 rfl rfl ?_
  repeat' first|((with_reducible show V _ _ _ _ _ _);first|refine Z08 rfl l1 ⟨rfl, rfl, trivial⟩ ?_|refine Z1 rfl ?_|refine Za rfl rfl ?_|refine Z9 rfl rfl ?_|refine Z7j rfl rfl (fun _=>?_) (fun _=>?_)|refine Z6 rfl rfl ?_)|((with_reducible show VO _ _ _ _ _ _ _);first|refine Zc rfl ?_|refine Z5 rfl rfl hw ?_|refine Z3 (Zb hW) rfl ?_|refine Z5 rfl rfl hs ?_|refine Z4 rfl la1 la2 ?_|refine Z4 rfl lb1 lb2 ?_|refine Z4 rfl lc1 lc2 ?_|refine Z4 rfl ld1 ld2 ?_|refine Z4 rfl le1 le2 ?_|refine Z5 rfl rfl k1 ?_|refine Z5 rfl rfl k2 ?_|refine Z5 rfl rfl k4 ?_|refine Z5 rfl rfl k5 ?_|refine Z0 rfl ?_|refine Z2 ?_|refine Zh rfl ?_|refine Zk rfl rfl ?_|refine Zba rfl (fun _=>?_) (fun _=>?_))
  all_goals try (clear hs hw k1 k2 k4 k5 l1 l2 l3 l4 la1 lb1 lc1 ld1 le1 h1 h2 h3 h4 h5;simp_all;done)
  rintro x e' st' ⟨rfl, ⟨rfl, hb6, rfl⟩|⟨rfl, hb6, rfl⟩⟩
  ·repeat' first|refine Z08 rfl l2 ⟨rfl, rfl, trivial⟩ ?_|refine Z1 rfl ?_|refine Z0 rfl ?_|refine Z2 ?_
   rintro x e' st' ⟨rfl, ⟨rfl, hb7, rfl⟩|⟨rfl, hb7, rfl⟩⟩
   ·repeat' first|refine Z08 rfl l3 ⟨rfl, rfl, trivial⟩ ?_|refine Z1 rfl ?_|refine Z0 rfl ?_|refine Z2 ?_
    rintro x e' st' ⟨rfl, ⟨rfl, hb8, rfl⟩|⟨rfl, hb8, rfl⟩⟩
    ·repeat' first|refine Z1 rfl ?_|refine Z6 rfl rfl ?_|((with_reducible show VO _ _ _ _ _ _ _);first|refine Z5 rfl rfl l4 ?_|refine Z0 rfl ?_|refine Z2 ?_)
     clear hs hw k1 k2 k4 k5 l1 l2 l3 l4 la1 lb1 lc1 ld1 le1 h1 h2 h3 h4 h5
     simp_all
    ·repeat' first|refine Z6 rfl rfl ?_
     rw [hb8]
     simp
   ·repeat' first|refine Z6 rfl rfl ?_
    rw [hb7]
    simp
  ·repeat' first|refine Z6 rfl rfl ?_
   rw [hb6]
   simp
theorem rcount_in {n:Nat} {p:PV} {i:Nat} {op:Int} {pa pb pc pd pe:PV} {subs:List (List Stp)} (hp:LR (SubC (SC n)) pe subs) (hat:At 6 p i [.int .i64 op, pa, pb, pc, pd, pe]) (d:Int) (hd:∀x∈subs, ∀q, SL n q x→T.R (.call Z1l [q, .int .i64 (wr d)] (cntP x (wr d)))) (plp:Pl p):
  ∀(rest pre:List (List Stp)) (N M:Int), subs=pre++rest→
  V T (PE fun x e st'=>st'=emptySt∧((x=.exit 2∧Ze7 rest=true∧∃a b:Int, e=Ze [(0, p), (1, .int .i64 d), (7, .int .i64 a), (8, .int .i64 b), (9, .int .i64 i)]∧a=IntKind.i64.wrap (N+Z8t rest)∧b=dpLL rest d M)∨(x=.ret∧Ze7 rest=false∧e=Ze [(4, .int .i64 0), (5, .int .i64 0), (6, .bool false)])))
   [.code (.loop Z5x)] .normal (Ze [(0, p), (1, .int .i64 d), (7, .int .i64 (IntKind.i64.wrap N)), (8, .int .i64 M), (9, .int .i64 i), (10, .int .i64 pre.length)]) emptySt:=by
 have ple:Pl pe:=LR.pl hp fun _ _ _ h=>h.pl fun _ _ h=>h.pl
 obtain ⟨le1, le2, le3⟩:=hp.len
 intro rest
 induction rest with
 |nil=>
  intro pre N M ha
  have hlt:¬(pre.length:Int)<subs.length:=by subst ha;simp
  refine Zf ?_
  repeat' first|((with_reducible show V _ _ _ _ _ _);first|refine Ze4 rfl rfl hlt ?_|refine Zr [(0, p), (1, .int .i64 d), (7, .int .i64 (IntKind.i64.wrap N)), (8, .int .i64 M), (9, .int .i64 i)] rfl ⟨rfl, rfl, rfl, rfl, rfl, trivial⟩ ⟨rfl, .inl ⟨rfl, rfl, _, _, rfl, by simp [Z8t], rfl⟩⟩|refine Z1 rfl ?_)|((with_reducible show VO _ _ _ _ _ _ _);first|refine Zg rfl rfl hat ?_|refine Z4 rfl le1 le2 ?_|refine Z0 rfl ?_|refine Z2 ?_)
 |cons y rest ih=>
  intro pre N M ha
  have hlt:(pre.length:Int)<subs.length:=by subst ha;simp;omega
  have hll:pre.length<subs.length:=by subst ha;simp
  have hy:subs[pre.length]?=some y:=by subst ha;simp
  obtain ⟨cy, ay, q, rfl, hq⟩:=hp.at (sz:=1) (fun _ _ h=>h.len1) hy
  have plq:=SL.pl hq
  have hcall:=hd y (by subst ha;simp) q hq
  have hw:IntKind.i64.wrap ((pre.length:Int)+1)=((pre++[y]).length:Int):=by rw [Z01];simp;omega
  unfold cntP at hcall
  have hok:Ze7 (y::rest)=(okL y&&Ze7 rest):=by rw [Ze7];rfl
  rw [hok]
  cases hoy:okL y with
  |false=>
   rw [hoy, if_neg (by simp)] at hcall
   refine Zf ?_
   repeat' first|((with_reducible show V _ _ _ _ _ _);first|refine Z2s rfl rfl hlt ?_|refine Zr [(4, .int .i64 0), (5, .int .i64 0), (6, .bool false)] rfl ⟨rfl, rfl, rfl, trivial⟩ ⟨rfl, .inr ⟨rfl, rfl, rfl⟩⟩|refine Z1 rfl ?_|refine Za rfl rfl ?_)|((with_reducible show VO _ _ _ _ _ _ _);first|refine Zg rfl rfl hat ?_|refine Z4 rfl le1 le2 ?_|refine Zg rfl rfl ay ?_|refine Z5 rfl rfl hcall ?_|refine Z0 rfl ?_|refine Z2 ?_)
  |true=>
   rw [hoy, if_pos rfl] at hcall
   have hi:=ih (pre++[y]) (N+Zgy y) (mxI M (dpL y (wr d) (wr d))) (by rw [ha];simp)
   have e2:N+((Z8t (y::rest):Nat):Int)=N+(Zgy y:Int)+(Z8t rest:Int):=by rw [Z8t];simp;omega
   have e4:PV.int .i64 (IntKind.i64.wrap (IntKind.i64.wrap N+IntKind.i64.wrap (Zgy y:Int)))=PV.int .i64 (IntKind.i64.wrap (N+Zgy y)):=Z5e (wrap_add _ _)
   rw [e2, dpLL, Bool.true_and]
   refine Zf ?_
   repeat' first|((with_reducible show V _ _ _ _ _ _);first|refine Z2s rfl rfl hlt ?_|refine Z7z rfl hi ⟨rfl, rfl, rfl, rfl, rfl, Z04 hw, trivial⟩|refine Z1 rfl ?_|refine Z9 rfl rfl ?_)|((with_reducible show VO _ _ _ _ _ _ _);first|refine Zg rfl rfl hat ?_|refine Z4 rfl le1 le2 ?_|refine Zg rfl rfl ay ?_|refine Z5 rfl rfl hcall ?_|refine Z3 e4 rfl ?_|refine Z3 (mx_is _ _) rfl ?_|refine Z0 rfl ?_|refine Z2 ?_)
theorem rcount_out {n:Nat} {p:PV} {l:List Stp} (hp:SL (n+1) p l) (d:Int) (hd:∀x, ∀q, SL n q x→T.R (.call Z1l [q, .int .i64 (wr d)] (cntP x (wr d)))):
  ∀(rest pre:List Stp) (N M:Int), l=pre++rest→
  V T (PE fun x e st'=>(x=.exit 0∧Zlv rest=true∧∃a b:Int, e=Ze [(7, .int .i64 a), (8, .int .i64 b)]∧a=IntKind.i64.wrap (N+Zgy rest)∧b=dpL rest d M)∨(x=.ret∧Zlv rest=false∧e=Ze [(4, .int .i64 0), (5, .int .i64 0), (6, .bool false)]))
   [.code (.loop Z5w)] .normal (Ze [(0, p), (1, .int .i64 d), (7, .int .i64 (IntKind.i64.wrap N)), (8, .int .i64 M), (9, .int .i64 pre.length)]) emptySt:=by
 have plp:Pl p:=SL.pl hp
 obtain ⟨lp1, lp2, lp3⟩:=hp.len
 intro rest
 induction rest with
 |nil=>
  intro pre N M ha
  have hlt:¬(pre.length:Int)<l.length:=by subst ha;simp
  refine Zf ?_
  repeat' first|((with_reducible show V _ _ _ _ _ _);first|refine Ze4 rfl rfl hlt ?_|refine Zr [(7, .int .i64 (IntKind.i64.wrap N)), (8, .int .i64 M)] rfl ⟨rfl, rfl, trivial⟩ (.inl ⟨rfl, rfl, _, _, rfl, by simp [Zgy], rfl⟩)|refine Z1 rfl ?_)|((with_reducible show VO _ _ _ _ _ _ _);first|refine Z4 rfl lp1 lp2 ?_|refine Z0 rfl ?_|refine Z2 ?_)
 |cons y rest ih=>
  intro pre N M ha
  have hlt:(pre.length:Int)<l.length:=by subst ha;simp;omega
  have hll:pre.length<l.length:=by subst ha;simp
  have hy:l[pre.length]?=some y:=by subst ha;simp
  obtain ⟨cy, ay, hc⟩:=SL.at hp hy
  have plc:=hc.pl
  have len6:=hc.len6
  obtain ⟨op, names, nums, preds, vals, subs⟩:=y
  have hstep:=run_rstep hc
  obtain ⟨ho, pa, pb, pc, pd, pe, rfl, h1, h2, h3, h4, h5⟩:=hc
  obtain ⟨le1, le2, le3⟩:=h5.len
  have pla:Pl pa:=plc _ (by simp)
  have plb:Pl pb:=plc _ (by simp)
  have plcc:Pl pc:=plc _ (by simp)
  have pld:Pl pd:=plc _ (by simp)
  have ple:Pl pe:=plc _ (by simp)
  have hw:IntKind.i64.wrap ((pre.length:Int)+1)=((pre++[Stp.mk op names nums preds vals subs]).length:Int):=by rw [Z01];simp;omega
  have hin:=rcount_in h5 ay d (fun x _ q hq=>hd x q hq) plp subs [] (N+1) M rfl
  have e0:PV.int .i64 (IntKind.i64.wrap (IntKind.i64.wrap N+1))=PV.int .i64 (IntKind.i64.wrap (N+1)):=Z5e (wrap_addL _ _)
  have e1:Zlv (Stp.mk op names nums preds vals subs::rest)=(Zh8 op names nums preds vals subs.length&&Ze7 subs&&Zlv rest):=by rw [Zlv, okS]
  rw [e1]
  refine Zf ?_
  cases hsb:Zh8 op names nums preds vals subs.length with
  |false=>
   rw [hsb] at hstep
   repeat' first|((with_reducible show V _ _ _ _ _ _);first|refine Z2s rfl rfl hlt ?_|refine Zr [(4, .int .i64 0), (5, .int .i64 0), (6, .bool false)] rfl ⟨rfl, rfl, rfl, trivial⟩ (.inr ⟨rfl, rfl, rfl⟩)|refine Z1 rfl ?_|refine Za rfl rfl ?_)|((with_reducible show VO _ _ _ _ _ _ _);first|refine Z4 rfl lp1 lp2 ?_|refine Zg rfl rfl ay ?_|refine Z07 rfl len6 ?_|refine Z5 rfl rfl hstep ?_|refine Z0 rfl ?_|refine Z2 ?_)
  |true=>
   rw [hsb] at hstep
   rw [Bool.true_and]
   repeat' first|((with_reducible show V _ _ _ _ _ _);first|refine Z2s rfl rfl hlt ?_|refine Z08 rfl hin ⟨rfl, rfl, rfl, rfl, rfl, rfl, trivial⟩ ?_|refine Z1 rfl ?_|refine Z9 rfl rfl ?_)|((with_reducible show VO _ _ _ _ _ _ _);first|refine Z4 rfl lp1 lp2 ?_|refine Zg rfl rfl ay ?_|refine Z07 rfl len6 ?_|refine Z5 rfl rfl hstep ?_|refine Z3 e0 rfl ?_|refine Z0 rfl ?_|refine Z2 ?_)
   rintro x e' st' ⟨rfl, ⟨rfl, hok, a, b, rfl, rfl, rfl⟩|⟨rfl, hok, rfl⟩⟩
   ·have hi:=ih (pre++[Stp.mk op names nums preds vals subs]) (N+1+Z8t subs) (dpLL subs d M) (by rw [ha];simp)
    have e2:N+((Zgy (Stp.mk op names nums preds vals subs::rest):Nat):Int)=N+1+(Z8t subs:Int)+(Zgy rest:Int):=by rw [Zgy, cntS];simp;omega
    rw [hok, e2, dpL, dpS, Bool.true_and]
    repeat' first|refine Z7z rfl hi ⟨rfl, rfl, rfl, rfl, Z04 hw, trivial⟩|refine Z1 rfl ?_|refine Z0 rfl ?_|refine Z2 ?_
   ·rw [hok, Bool.false_and]
    repeat' first|refine Zr [(4, .int .i64 0), (5, .int .i64 0), (6, .bool false)] rfl ⟨rfl, rfl, rfl, trivial⟩ (.inr ⟨rfl, rfl, rfl⟩)
theorem sl_zero {p:PV} {l:List Stp} (hp:SL 0 p l):l=[]:=by
 cases l with
 |nil=>rfl
 |cons s r=>
  obtain ⟨cs, _, h⟩:=SL.at hp (j:=0) (s:=s) rfl
  exact h.elim
theorem run_rCount:∀(n:Nat) (l:List Stp) (p:PV) (d:Int), SL n p l→T.R (.call Z1l [p, .int .i64 d] (cntP l d)):=by
 have main:∀(n:Nat) (l:List Stp) (p:PV) (d:Int), SL (n+1) p l→(∀(l:List Stp) (p:PV) (d:Int), SL n p l→T.R (.call Z1l [p, .int .i64 d] (cntP l d)))→T.R (.call Z1l [p, .int .i64 d] (cntP l d)):=by
  intro n l p d hp ih
  have plp:Pl p:=SL.pl hp
  obtain ⟨lp1, lp2, lp3⟩:=hp.len
  have hout:=rcount_out hp d (fun x q hq=>ih x q (wr d) hq) l [] 0 d rfl
  unfold cntP okL
  have hem:=Zoz l
  cases hE:l.isEmpty with
  |true=>
   rw [hE] at hem
   refine Z7 rfl rfl ?_
   repeat' first|((with_reducible show V _ _ _ _ _ _);first|refine Z1 rfl ?_|refine Za rfl rfl ?_|refine Z6 rfl rfl ?_)|((with_reducible show VO _ _ _ _ _ _ _);first|refine Z4 rfl lp1 lp2 ?_|refine Z3 (Zph hem) rfl ?_|refine Z0 rfl ?_|refine Z2 ?_)
   rfl
  |false=>
   rw [hE] at hem
   refine Z7 rfl rfl ?_
   repeat' first|((with_reducible show V _ _ _ _ _ _);first|refine Z08 rfl hout ⟨rfl, rfl, rfl, rfl, rfl, trivial⟩ ?_|refine Z1 rfl ?_|refine Z9 rfl rfl ?_)|((with_reducible show VO _ _ _ _ _ _ _);first|refine Z4 rfl lp1 lp2 ?_|refine Z3 (Zph hem) rfl ?_|refine Z0 rfl ?_|refine Z2 ?_)
   rintro x e' st' (⟨rfl, hok, a, b, rfl, rfl, rfl⟩|⟨rfl, hok, rfl⟩)
   ·rw [hok]
    have e1:((0:Int)+(Zgy l:Int))=(Zgy l:Int):=by omega
    rw [e1]
    repeat' first|refine Z1 rfl ?_|refine Z6 rfl rfl ?_|refine Z0 rfl ?_|refine Z2 ?_
    rfl
   ·rw [hok]
    repeat' first|refine Z6 rfl rfl ?_
    rfl
 intro n
 induction n with
 |zero=>
  intro l p d hp
  have hl:=sl_zero hp
  subst hl
  obtain ⟨lp1, lp2, lp3⟩:=hp.len
  have plp:Pl p:=SL.pl hp
  refine Z7 rfl rfl ?_
  repeat' first|((with_reducible show V _ _ _ _ _ _);first|refine Z1 rfl ?_|refine Za rfl rfl ?_|refine Z6 rfl rfl ?_)|((with_reducible show VO _ _ _ _ _ _ _);first|refine Z4 rfl lp1 lp2 ?_|refine Z0 rfl ?_|refine Z2 ?_)
  rfl
 |succ n ih=>exact fun l p d hp=>main n l p d hp ih
theorem Zql {n:Nat} {l:List Stp} {p:PV} (hp:SL n p l):T.R (.call Zhz [p] (.int .i64 (Zpb l))):=by
 have h:=run_rCount n l p 1 hp
 have plp:Pl p:=SL.pl hp
 unfold cntP at h
 unfold Zpb
 cases hok:okL l with
 |false=>
  rw [hok, if_neg (by simp)] at h
  refine Z7 rfl rfl ?_
  repeat' first|((with_reducible show V _ _ _ _ _ _);first|refine Z1 rfl ?_|refine Za rfl rfl ?_|refine Z6 rfl rfl ?_)|((with_reducible show VO _ _ _ _ _ _ _);first|refine Z5 rfl rfl h ?_|refine Z0 rfl ?_|refine Z2 ?_)
  rfl
 |true=>
  rw [hok, if_pos rfl] at h
  rw [if_pos rfl]
  generalize IntKind.i64.wrap (Zgy l:Int)=a at *
  generalize dpL l 1 1=b at *
  refine Z7 rfl rfl ?_
  repeat' first|((with_reducible show V _ _ _ _ _ _);first|refine Z1 rfl ?_|refine Za rfl rfl ?_|refine Z9 rfl rfl ?_|refine Z7j rfl rfl (fun _=>?_) (fun _=>?_)|refine Z6 rfl rfl ?_)|((with_reducible show VO _ _ _ _ _ _ _);first|refine Z5 rfl rfl h ?_|refine Z0 rfl ?_|refine Z2 ?_|refine Zh rfl ?_|refine Zk rfl rfl ?_|refine Zba rfl (fun _=>?_) (fun _=>?_))
  all_goals simp_all
end Go.Proofs.YtnedeokclnbcpaaGreatDoor
