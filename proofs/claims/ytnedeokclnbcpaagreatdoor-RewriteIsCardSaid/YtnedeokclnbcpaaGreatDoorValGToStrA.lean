/- value.may, one step. · value.may, one step; slices.ContainsFunc over it. · value.may, one step. · rambleref02.all, rises; both may, both Check. · strings.Index, Contains, Cut, Count, Split: at a separator of one byte. -/
import Derived.Test.YtnedeokclnbcpaaGreatDoorBytesToValF
import Derived.Test.YtnedeokclnbcpaaGreatDoorAmZ
import Derived.Test.YtnedeokclnbcpaaGreatDoorT
set_option linter.unusedVariables false
set_option linter.unusedSimpArgs false
namespace Go.Proofs.YtnedeokclnbcpaaGreatDoor
open Go Go.AM Go.RowKit
def stM (cs:List PV) (d:Int):St:=⟨0, 2, [(0, .var cs), (1, .var [.int .i64 d])]⟩
def riseP (S:St) (l:List Val):EX→EC→St→Prop:=fun x e' st'=>st'=S∧((x=.exit 1∧e'=.put 2 (.ptr 0 0) (.put 3 (.ptr 1 0) .nil)∧Z26 l=true)∨(x=.ret∧e'=.put 4 (.bool false) .nil∧Z26 l=false))
theorem rise_loop (k n d:Int) (s:List UInt8) (l:List Val) (p:PV) (hp:LC l p):
  ∀(m:Nat) (ra pre:List Val) (e:EC), ra.length≤m→l=pre++ra→Z26 l=Z26 ra→(ra≠[]∨l=[])→e.get 2=some (.ptr 0 0)→e.get 3=some (.ptr 1 0)→e.get 6=some (.int .i64 (pre.length+2))→
  V T (PE (riseP (stM [.int .i64 k, .int .i64 n, .str s, p] d) l)) [.code (.loop Zb6)] .normal e (stM [.int .i64 k, .int .i64 n, .str s, p] d):=by
 obtain ⟨lp1, lp2, lp3⟩:=hp.len
 intro m
 induction m with
 |zero=>
  intro ra pre e hm hl hr hne h2 h3 h6
  have hra:ra=[]:=by cases ra with
   |nil=>rfl
   |cons y ra=>simp at hm
  have hl0:l=[]:=by
   rcases hne with h|h
   ·exact absurd hra h
   ·exact h
  have hpre:pre=[]:=by rw [hl0] at hl;simp at hl;exact hl.1
  have out:∀(fr:List Fr) (x:EX) (e':EC), Zs 200 fr x=([], .exit 1)→e'.get 2=some (.ptr 0 0)→e'.get 3=some (.ptr 1 0)→V T (PE (riseP (stM [.int .i64 k, .int .i64 n, .str s, p] d) l)) fr x e' (stM [.int .i64 k, .int .i64 n, .str s, p] d):=fun fr x e' hadv g2 g3=>
   Z0y (.put 2 _ (.put 3 _ .nil)) (Zq g2 (Zq g3 Z09)) (Z47 hadv ⟨rfl, .inl ⟨rfl, rfl, by rw [hl0];rfl⟩⟩)
  refine Z0y (.put 2 _ (.put 3 _ (.put 6 _ .nil))) (Zq h2 (Zq h3 (Zq h6 Z09))) (Zf ?_)
  repeat' first|((with_reducible show V _ _ _ _ _ _);first|refine Z1 rfl ?_|refine Z7j rfl rfl (fun _=>?_) (fun _=>?_)|refine V_D rfl ?_)|((with_reducible show VO _ _ _ _ _ _ _);first|refine Z4 rfl lp1 lp2 ?_|refine Z0 rfl ?_|refine Z2 ?_)|refine Zo rfl ?_|refine out _ _ _ rfl rfl rfl
  all_goals (exfalso;clear out;subst hl0 hpre;simp at *)
 |succ m ihr=>
  intro ra pre e hm hl hr hne h2 h3 h6
  match ra, hm, hl, hr, hne with
  |[], hm, hl, hr, hne=>exact ihr [] pre e (by simp) hl hr hne h2 h3 h6
  |[y], hm, hl, hr, hne=>
   have out:∀(fr:List Fr) (x:EX) (e':EC), Zs 200 fr x=([], .exit 1)→e'.get 2=some (.ptr 0 0)→e'.get 3=some (.ptr 1 0)→V T (PE (riseP (stM [.int .i64 k, .int .i64 n, .str s, p] d) l)) fr x e' (stM [.int .i64 k, .int .i64 n, .str s, p] d):=fun fr x e' hadv g2 g3=>
    Z0y (.put 2 _ (.put 3 _ .nil)) (Zq g2 (Zq g3 Z09)) (Z47 hadv ⟨rfl, .inl ⟨rfl, rfl, by rw [hr];rfl⟩⟩)
   refine Z0y (.put 2 _ (.put 3 _ (.put 6 _ .nil))) (Zq h2 (Zq h3 (Zq h6 Z09))) (Zf ?_)
   repeat' first|((with_reducible show V _ _ _ _ _ _);first|refine Z1 rfl ?_|refine Z7j rfl rfl (fun _=>?_) (fun _=>?_)|refine V_D rfl ?_)|((with_reducible show VO _ _ _ _ _ _ _);first|refine Z4 rfl lp1 lp2 ?_|refine Z0 rfl ?_|refine Z2 ?_)|refine Zo rfl ?_|refine out _ _ _ rfl rfl rfl
   all_goals (exfalso;clear out;subst hl;simp at *;try omega)
  |[y, z], hm, hl, hr, hne=>
   have out:∀(fr:List Fr) (x:EX) (e':EC), Zs 200 fr x=([], .exit 1)→e'.get 2=some (.ptr 0 0)→e'.get 3=some (.ptr 1 0)→V T (PE (riseP (stM [.int .i64 k, .int .i64 n, .str s, p] d) l)) fr x e' (stM [.int .i64 k, .int .i64 n, .str s, p] d):=fun fr x e' hadv g2 g3=>
    Z0y (.put 2 _ (.put 3 _ .nil)) (Zq g2 (Zq g3 Z09)) (Z47 hadv ⟨rfl, .inl ⟨rfl, rfl, by rw [hr];rfl⟩⟩)
   refine Z0y (.put 2 _ (.put 3 _ (.put 6 _ .nil))) (Zq h2 (Zq h3 (Zq h6 Z09))) (Zf ?_)
   repeat' first|((with_reducible show V _ _ _ _ _ _);first|refine Z1 rfl ?_|refine Z7j rfl rfl (fun _=>?_) (fun _=>?_)|refine V_D rfl ?_)|((with_reducible show VO _ _ _ _ _ _ _);first|refine Z4 rfl lp1 lp2 ?_|refine Z0 rfl ?_|refine Z2 ?_)|refine Zo rfl ?_|refine out _ _ _ rfl rfl rfl
   all_goals (exfalso;clear out;subst hl;simp at *)
  |y::z::w::ra, hm, hl, hr, hne=>
   have hlt:pre.length+2<l.length:=by subst hl;simp
   have hy:l[pre.length]?=some y:=by subst hl;simp
   have hw:l[pre.length+2]?=some w:=by subst hl;simp
   obtain ⟨cy, ay, vy⟩:=hp.at hy
   obtain ⟨cw, aw, vw⟩:=hp.at hw
   have ply:=vy.pl
   have plw:=vw.pl
   have hcall:=Zo0 vy w cw vw
   have ay':At 4 p (IntKind.i64.wrap ((pre.length:Int)+2-2)) cy:=by
    have:IntKind.i64.wrap ((pre.length:Int)+2-2)=(pre.length:Int):=by rw [Z01];omega
    rw [this];exact ay
   have aw':At 4 p ((pre.length:Int)+2) cw:=by
    have:((pre.length+2:Nat):Int)=(pre.length:Int)+2:=by omega
    rw [←this];exact aw
   have hr':Z26 l=(decide (Zgz y w<0)&&Z26 (w::ra)):=by rw [hr];rfl
   generalize Zgz y w=r at hcall hr'
   by_cases hrr:r<0
   ·have fin:∀(fr:List Fr) (x:EX) (e':EC), Zs 200 fr x=([.code (.loop Zb6)], .normal)→e'.get 2=some (.ptr 0 0)→e'.get 3=some (.ptr 1 0)→e'.get 6=some (.int .i64 (IntKind.i64.wrap ((pre.length:Int)+2+2)))→V T (PE (riseP (stM [.int .i64 k, .int .i64 n, .str s, p] d) l)) fr x e' (stM [.int .i64 k, .int .i64 n, .str s, p] d):=fun fr x e' hadv g2 g3 g6=>Z5j hadv (by
     have hw:IntKind.i64.wrap ((pre.length:Int)+2+2)=((pre++[y, z]).length:Int)+2:=by rw [Z01];simp;omega
     rw [hw] at g6
     exact ihr (w::ra) (pre++[y, z]) e' (by simp at hm ⊢;omega) (by rw [hl];simp) (by rw [hr', decide_eq_true hrr];rfl) (.inl (by simp)) g2 g3 g6)
    refine Z0y (.put 2 _ (.put 3 _ (.put 6 _ .nil))) (Zq h2 (Zq h3 (Zq h6 Z09))) (Zf ?_)
    repeat' first|((with_reducible show V _ _ _ _ _ _);first|refine Z1 rfl ?_|refine Z7j rfl rfl (fun _=>?_) (fun _=>?_)|refine V_D rfl ?_)|((with_reducible show VO _ _ _ _ _ _ _);first|refine Z4 rfl lp1 lp2 ?_|refine Z0 rfl ?_|refine Z2 ?_)|((with_reducible show VD _ _ _ _ _ _ _);first|refine Z40 rfl rfl ay' ?_|refine Z40 rfl rfl aw' ?_|refine Z3y rfl vy.len4 ?_|refine Z3y rfl vw.len4 ?_|refine Zn5 rfl rfl hcall ?_|refine Zo rfl ?_|refine Z0a ?_)|refine fin _ _ _ rfl rfl rfl rfl
    all_goals (exfalso;clear fin ihr hcall;simp at *;try omega)
   ·have ret:∀(fr:List Fr) (x:EX) (e':EC), Zs 200 fr x=([], .ret)→e'.get 4=some (.bool false)→V T (PE (riseP (stM [.int .i64 k, .int .i64 n, .str s, p] d) l)) fr x e' (stM [.int .i64 k, .int .i64 n, .str s, p] d):=fun fr x e' hadv g0=>
     Z0y (.put 4 _ .nil) (Zq g0 Z09) (Z47 hadv ⟨rfl, .inr ⟨rfl, rfl, by rw [hr', decide_eq_false hrr];rfl⟩⟩)
    refine Z0y (.put 2 _ (.put 3 _ (.put 6 _ .nil))) (Zq h2 (Zq h3 (Zq h6 Z09))) (Zf ?_)
    repeat' first|((with_reducible show V _ _ _ _ _ _);first|refine Z1 rfl ?_|refine Z7j rfl rfl (fun _=>?_) (fun _=>?_)|refine V_D rfl ?_)|((with_reducible show VO _ _ _ _ _ _ _);first|refine Z4 rfl lp1 lp2 ?_|refine Z0 rfl ?_|refine Z2 ?_)|((with_reducible show VD _ _ _ _ _ _ _);first|refine Z40 rfl rfl ay' ?_|refine Z40 rfl rfl aw' ?_|refine Z3y rfl vy.len4 ?_|refine Z3y rfl vw.len4 ?_|refine Zn5 rfl rfl hcall ?_|refine Zo rfl ?_|refine Z0a ?_)|refine ret _ _ _ rfl rfl
    all_goals (exfalso;clear ihr ret hcall;simp at *;try omega)
def idxV (P:Val→Bool):List Val→Nat→Int
 |[], _ => -1
 |v::r, i=>if P v then i else idxV P r (i+1)
theorem idxV_any (P:Val→Bool):∀(l:List Val) (i:Nat), decide (0≤idxV P l i)=l.any P
 |[], i=>by simp [idxV]
 |v::r, i=>by
  unfold idxV
  have:=idxV_any P r (i+1)
  cases h:P v with
  |true=>simp [h]
  |false=>simp [h, this]
theorem run_may1 (f:Nat) (d:Int) (hd:d+f=8∧0≤d) (v:Val) (cs:List PV) (hv:VC v cs) (hm:T.R (.call Zht [.agg cs, .int .i64 (d+1)] (.bool (Zp f v)))):
  T.R (.call Z51 [.agg cs, .iptr [.int .i64 d] 0] (.bool (!Zp f v))):=by
 have hw:IntKind.i64.wrap (d+1)=d+1:=by rw [Z01];omega
 rw [←hw] at hm
 obtain ⟨k, n, s, l⟩:=v
 generalize Zp f _=r at hm ⊢
 obtain ⟨hk, hn, hs, p, rfl, hp⟩:=hv.open
 have plp:=hp.pl
 refine Z7 rfl rfl ?_
 repeat' first|refine Z1 rfl ?_|refine Z6 rfl rfl ?_|((with_reducible show VO _ _ _ _ _ _ _);first|refine Zc rfl ?_|refine Z5 rfl rfl hm ?_|refine Z0 rfl ?_|refine Z2 ?_)
 all_goals rfl
def idxP (P:Val→Bool) (l:List Val):EX→EC→St→Prop:=fun x e' st'=>st'=emptySt∧((x=.exit 0∧idxV P l 0 = -1)∨(x=.ret∧e'=.put 4 (.int .i64 (idxV P l 0)) .nil))
theorem idx_loop (P:Val→Bool) (g:Nat) (caps:List PV) (plc:∀c∈caps, Pl c) (l:List Val) (p:PV) (hp:LC l p)
  (hm:∀(j:Nat) (v:Val) (cs:List PV), l[j]?=some v→At 4 p j cs→T.R (.call g (.agg cs::caps) (.bool (P v)))):
  ∀(ra pre:List Val) (e:EC), l=pre++ra→idxV P l 0=idxV P ra pre.length→e.get 0=some p→e.get 1=some (.func g caps)→e.get 7=some (.int .i64 l.length)→e.get 8=some (.int .i64 pre.length)→
  V T (PE (idxP P l)) [.code (.loop Z12)] .normal e emptySt:=by
 obtain ⟨lp1, lp2, lp3⟩:=hp.len
 intro ra
 induction ra with
 |nil=>
  intro pre e ha hi h0 h1 h7 h8
  have out:∀(fr:List Fr) (x:EX) (e':EC), Zs 200 fr x=([], .exit 0)→V T (PE (idxP P l)) fr x e' emptySt:=fun fr x e' hadv=>Z47 hadv ⟨rfl, .inl ⟨rfl, by rw [hi];rfl⟩⟩
  refine Z0y (.put 0 p (.put 1 (.func g caps) (.put 7 _ (.put 8 _ .nil)))) (Zq h0 (Zq h1 (Zq h7 (Zq h8 Z09)))) (Zf ?_)
  repeat' first|refine Z1 rfl ?_|refine Z7j rfl rfl (fun _=>?_) (fun _=>?_)|refine Z0 rfl ?_|refine Z2 ?_|refine out _ _ _ rfl
  all_goals (exfalso;clear out;subst ha;simp at *)
 |cons y ra ihr=>
  intro pre e ha hi h0 h1 h7 h8
  refine Z0y (.put 0 p (.put 1 (.func g caps) (.put 7 _ (.put 8 _ .nil)))) (Zq h0 (Zq h1 (Zq h7 (Zq h8 Z09)))) (Zf ?_)
  have hy:l[pre.length]?=some y:=by subst ha;simp
  obtain ⟨cy, ay, vy⟩:=hp.at hy
  have ply:=vy.pl
  have hcall:=hm _ y cy hy ay
  have hvl:Z2r false emptySt.get ([PV.agg cy]++caps) (.agg cy::caps):=Zip (Z0s (.agg _ ply) plc)
  cases hyP:P y with
  |false=>
   rw [hyP] at hcall
   have fin:∀(fr:List Fr) (x:EX) (e':EC), Zs 200 fr x=([.code (.loop Z12)], .normal)→e'.get 0=some p→e'.get 1=some (.func g caps)→e'.get 7=some (.int .i64 l.length)→e'.get 8=some (.int .i64 (IntKind.i64.wrap (pre.length+1)))→V T (PE (idxP P l)) fr x e' emptySt:=fun fr x e' hadv g0 g1 g7 g8=>Z5j hadv (by
    have hlt:pre.length<l.length:=by subst ha;simp
    have hw:IntKind.i64.wrap (pre.length+1)=((pre++[y]).length:Int):=by rw [Z01];simp;omega
    rw [hw] at g8
    exact ihr (pre++[y]) e' (by rw [ha];simp) (by rw [hi];simp [idxV, hyP]) g0 g1 g7 g8)
   repeat' first|((with_reducible show V _ _ _ _ _ _);first|refine Z1 rfl ?_|refine Z9 rfl rfl ?_|refine Z7j rfl rfl (fun _=>?_) (fun _=>?_))|((with_reducible show VO _ _ _ _ _ _ _);first|refine Zg rfl rfl ay ?_|refine Z07 rfl vy.len4 ?_|refine Zpm rfl rfl hvl hcall ?_|refine Z0 rfl ?_|refine Z2 ?_)|refine fin _ _ _ rfl rfl rfl rfl rfl
   all_goals (exfalso;clear fin ihr hcall hm;subst ha;simp at *;try omega)
  |true=>
   rw [hyP] at hcall
   have ret:∀(fr:List Fr) (x:EX) (e':EC), Zs 200 fr x=([], .ret)→e'.get 4=some (.int .i64 pre.length)→V T (PE (idxP P l)) fr x e' emptySt:=fun fr x e' hadv g0=>
    Z0y (.put 4 _ .nil) (Zq g0 Z09) (Z47 hadv ⟨rfl, .inr ⟨rfl, by rw [hi];simp [idxV, hyP]⟩⟩)
   repeat' first|((with_reducible show V _ _ _ _ _ _);first|refine Z1 rfl ?_|refine Za rfl rfl ?_|refine Z7j rfl rfl (fun _=>?_) (fun _=>?_))|((with_reducible show VO _ _ _ _ _ _ _);first|refine Zg rfl rfl ay ?_|refine Z07 rfl vy.len4 ?_|refine Zpm rfl rfl hvl hcall ?_|refine Z0 rfl ?_|refine Z2 ?_)|refine ret _ _ _ rfl rfl
   all_goals (exfalso;clear ihr ret hcall hm;subst ha;simp at *;try omega)
theorem run_IndexFunc (P:Val→Bool) (g:Nat) (caps:List PV) (plc:∀c∈caps, Pl c) (l:List Val) (p:PV) (hp:LC l p)
  (hm:∀(j:Nat) (v:Val) (cs:List PV), l[j]?=some v→At 4 p j cs→T.R (.call g (.agg cs::caps) (.bool (P v)))):
  T.R (.call Z37 [p, .func g caps] (.int .i64 (idxV P l 0))):=by
 obtain ⟨lp1, lp2, lp3⟩:=hp.len
 have hl:=fun e h0 h1 h2 h3=>idx_loop P g caps plc l p hp hm l [] e rfl rfl h0 h1 h2 h3
 refine Z7 rfl rfl ?_
 repeat' first|refine Zme rfl (hl _ rfl rfl rfl rfl) ?_|refine Z1 rfl ?_|((with_reducible show VO _ _ _ _ _ _ _);first|refine Z4 rfl lp1 lp2 ?_|refine Z0 rfl ?_|refine Z2 ?_)
 rintro x e' st' ⟨rfl, ⟨rfl, h⟩|⟨rfl, rfl⟩⟩
 ·repeat' first|refine Z1 rfl ?_|refine Z6 rfl rfl ?_|refine Z0 rfl ?_|refine Z2 ?_
  rw [h]
 ·repeat' first|refine Z6 rfl rfl ?_
  rfl
theorem Zmf (P:Val→Bool) (g:Nat) (caps:List PV) (plc:∀c∈caps, Pl c) (l:List Val) (p:PV) (hp:LC l p)
  (hm:∀(j:Nat) (v:Val) (cs:List PV), l[j]?=some v→At 4 p j cs→T.R (.call g (.agg cs::caps) (.bool (P v)))):
  T.R (.call Z11 [p, .func g caps] (.bool (l.any P))):=by
 have h:=run_IndexFunc P g caps plc l p hp hm
 have plp:=hp.pl
 rw [←idxV_any P l 0]
 generalize idxV P l 0=r at h ⊢
 refine Z7 rfl rfl ?_
 repeat' first|refine Z1 rfl ?_|refine Z6 rfl rfl ?_|((with_reducible show VO _ _ _ _ _ _ _);first|refine Z5 rfl rfl h ?_|refine Z0 rfl ?_|refine Z2 ?_)
 all_goals rfl
set_option maxHeartbeats 4000000 in
theorem run_may_step (f:Nat) (d:Int) (hd:d+f=8∧0≤d) (k n:Int) (s:List UInt8) (l:List Val) (p:PV) (hp:LC l p)
  (hall:T.R (.call Z11 [p, .func Z51 [.iptr [.int .i64 d] 0]] (.bool (!l.all (Zp f))))):
  T.R (.call Zht [.agg [.int .i64 k, .int .i64 n, .str s, p], .int .i64 d] (.bool (Zp (f+1) (.mk k n s l)))):=by
 obtain ⟨lp1, lp2, lp3⟩:=hp.len
 have plp:=hp.pl
 have hl:=fun e h0 h1 h2=>rise_loop k n d s l p hp l.length l [] e (Nat.le_refl _) rfl rfl (by cases l<;>simp) h0 h1 h2
 have hvl:Z2r true (stM [.int .i64 k, .int .i64 n, .str s, p] d).get [p, .func Z51 [.ptr 1 0]] [p, .func Z51 [.iptr [.int .i64 d] 0]]:=
  Zkk plp.view (Zkk (view_func (Zkk (view_ptr rfl (Z0s (.int _ _) Z31)) viewL_nil)) viewL_nil)
 have hd8:decide (8<d)=false:=decide_eq_false (by omega)
 have e256:decide ((l.length:Int)≤256)=!decide (256<(l.length:Int)):=by by_cases h:256<(l.length:Int)<;>simp [h]<;>omega
 have e512:decide ((l.length:Int)≤512)=!decide (512<(l.length:Int)):=by by_cases h:512<(l.length:Int)<;>simp [h]<;>omega
 have epar:decide ((l.length:Int).tmod 2=0)=!decide ((l.length:Int).tmod 2=1):=by
  rw [Int.tmod_eq_emod_of_nonneg (by omega)]
  by_cases h:(l.length:Int) % 2=1<;>simp [h]<;>omega
 by_cases h1:k=1
 ·subst h1
  clear hl
  have hm:Zp (f+1) (.mk 1 n s l)=(decide (s=[])&&decide ((l.length:Int)=0)):=by simp [Zp]
  rw [hm]
  generalize l.all (Zp f)=a at hall ⊢
  refine Z7 rfl rfl ?_
  repeat' first|((with_reducible show V _ _ _ _ _ _);first|refine Z48 hd8 rfl rfl ?_|refine Z1 rfl ?_|refine Za rfl rfl ?_|refine Z6 rfl rfl ?_)|((with_reducible show VO _ _ _ _ _ _ _);first|refine Zc rfl ?_|refine Z4 rfl lp1 lp2 ?_|refine Z0 rfl ?_|refine Z2 ?_|refine Zh rfl ?_|refine Zk rfl rfl ?_|refine Zba rfl (fun _=>?_) (fun _=>?_))
  all_goals clear hall hvl hm e256 e512 epar
  all_goals first|(simp only [*, Bool.true_and, Bool.and_true, Bool.false_and, Bool.and_false, Bool.true_or, Bool.or_true, Bool.false_or, Bool.or_false, Bool.not_true, Bool.not_false, Bool.not_not];done)|(exfalso;simp_all;done)
 by_cases h3:k=3
 ·subst h3
  clear hl
  have hm:Zp (f+1) (.mk 3 n s l)=(decide (s=[])&&decide ((l.length:Int)=0)&&(decide (n=0)||decide (n=1))):=by simp [Zp]
  rw [hm]
  generalize l.all (Zp f)=a at hall ⊢
  refine Z7 rfl rfl ?_
  repeat' first|((with_reducible show V _ _ _ _ _ _);first|refine Z48 hd8 rfl rfl ?_|refine Z1 rfl ?_|refine Za rfl rfl ?_|refine Z9 rfl rfl ?_|refine Z6 rfl rfl ?_)|((with_reducible show VO _ _ _ _ _ _ _);first|refine Zc rfl ?_|refine Z4 rfl lp1 lp2 ?_|refine Z0 rfl ?_|refine Z2 ?_|refine Zh rfl ?_|refine Z3x rfl ?_|refine Zk rfl rfl ?_|refine Zba rfl (fun _=>?_) (fun _=>?_))
  all_goals clear hall hvl hm e256 e512 epar
  all_goals first|(simp only [*, Bool.true_and, Bool.and_true, Bool.false_and, Bool.and_false, Bool.true_or, Bool.or_true, Bool.false_or, Bool.or_false, Bool.not_true, Bool.not_false, Bool.not_not];done)|(exfalso;simp_all;done)
 by_cases h6:k=6
 ·subst h6
  clear hl
  have hm:Zp (f+1) (.mk 6 n s l)=(decide (s=[])&&decide ((l.length:Int)=0)&&decide (1≤n)&&decide (n≤281474976710656)):=by simp [Zp]
  rw [hm]
  generalize l.all (Zp f)=a at hall ⊢
  refine Z7 rfl rfl ?_
  repeat' first|((with_reducible show V _ _ _ _ _ _);first|refine Z48 hd8 rfl rfl ?_|refine Z1 rfl ?_|refine Za rfl rfl ?_|refine Z9 rfl rfl ?_|refine Z6 rfl rfl ?_)|((with_reducible show VO _ _ _ _ _ _ _);first|refine Zc rfl ?_|refine Z4 rfl lp1 lp2 ?_|refine Z0 rfl ?_|refine Z2 ?_|refine Zh rfl ?_|refine Zk rfl rfl ?_|refine Zba rfl (fun _=>?_) (fun _=>?_))
  all_goals clear hall hvl hm e256 e512 epar
  all_goals first|(simp only [*, Bool.true_and, Bool.and_true, Bool.false_and, Bool.and_false, Bool.true_or, Bool.or_true, Bool.false_or, Bool.or_false, Bool.not_true, Bool.not_false, Bool.not_not];done)|(exfalso;simp_all;done)
 by_cases h7:k=7
 ·subst h7
  clear hl
  have hm:Zp (f+1) (.mk 7 n s l)=(decide (s=[])&&decide ((l.length:Int)=0)&&decide (1≤n)&&decide (n≤281474976710656)):=by simp [Zp]
  rw [hm]
  generalize l.all (Zp f)=a at hall ⊢
  refine Z7 rfl rfl ?_
  repeat' first|((with_reducible show V _ _ _ _ _ _);first|refine Z48 hd8 rfl rfl ?_|refine Z1 rfl ?_|refine Za rfl rfl ?_|refine Z9 rfl rfl ?_|refine Z6 rfl rfl ?_)|((with_reducible show VO _ _ _ _ _ _ _);first|refine Zc rfl ?_|refine Z4 rfl lp1 lp2 ?_|refine Z0 rfl ?_|refine Z2 ?_|refine Zh rfl ?_|refine Zk rfl rfl ?_|refine Zba rfl (fun _=>?_) (fun _=>?_))
  all_goals clear hall hvl hm e256 e512 epar
  all_goals first|(simp only [*, Bool.true_and, Bool.and_true, Bool.false_and, Bool.and_false, Bool.true_or, Bool.or_true, Bool.false_or, Bool.or_false, Bool.not_true, Bool.not_false, Bool.not_not];done)|(exfalso;simp_all;done)
 by_cases h2:k=2
 ·subst h2
  clear hl
  have hm:Zp (f+1) (.mk 2 n s l)=(decide (n=0)&&decide ((l.length:Int)=0)&&decide ((s.length:Int)≤128)):=by simp [Zp]
  rw [hm]
  generalize l.all (Zp f)=a at hall ⊢
  refine Z7 rfl rfl ?_
  repeat' first|((with_reducible show V _ _ _ _ _ _);first|refine Z48 hd8 rfl rfl ?_|refine Z1 rfl ?_|refine Za rfl rfl ?_|refine Z9 rfl rfl ?_|refine Z6 rfl rfl ?_)|((with_reducible show VO _ _ _ _ _ _ _);first|refine Zc rfl ?_|refine Z4 rfl lp1 lp2 ?_|refine Z0 rfl ?_|refine Z2 ?_|refine Zh rfl ?_|refine Zk rfl rfl ?_|refine Zba rfl (fun _=>?_) (fun _=>?_))
  all_goals clear hall hvl hm e256 e512 epar
  all_goals first|(simp only [*, Bool.true_and, Bool.and_true, Bool.false_and, Bool.and_false, Bool.true_or, Bool.or_true, Bool.false_or, Bool.or_false, Bool.not_true, Bool.not_false, Bool.not_not];done)|(exfalso;simp_all;done)
 by_cases h4:k=4
 ·subst h4
  clear hl
  have hm:Zp (f+1) (.mk 4 n s l)=(decide (n=0)&&decide (s=[])&&decide ((l.length:Int)≤256)&&l.all (Zp f)):=by simp [Zp]
  rw [hm]
  rw [e256]
  generalize l.all (Zp f)=a at hall ⊢
  refine Z7 rfl rfl ?_
  repeat' first|((with_reducible show V _ _ _ _ _ _);first|refine Z48 hd8 rfl rfl ?_|refine Z1 rfl ?_|refine Za rfl rfl ?_|refine Z9 rfl rfl ?_|refine Z7j rfl rfl (fun _=>?_) (fun _=>?_)|refine Z6 rfl rfl ?_)|((with_reducible show VO _ _ _ _ _ _ _);first|refine Zc rfl ?_|refine Z4 rfl lp1 lp2 ?_|refine O_callSP rfl rfl hvl rfl hall ?_|refine Z0 rfl ?_|refine Z2 ?_|refine Zh rfl ?_|refine Zk rfl rfl ?_|refine Zba rfl (fun _=>?_) (fun _=>?_))
  all_goals clear hall hvl hm e256 e512 epar
  all_goals first|(simp only [*, Bool.true_and, Bool.and_true, Bool.false_and, Bool.and_false, Bool.true_or, Bool.or_true, Bool.false_or, Bool.or_false, Bool.not_true, Bool.not_false, Bool.not_not];done)|(exfalso;simp_all;done)
 by_cases h5:k=5
 ·subst h5
  have hm:Zp (f+1) (.mk 5 n s l)=(decide (n=0)&&decide (s=[])&&decide ((l.length:Int)≤512)&&decide ((l.length:Int).tmod 2=0)&&l.all (Zp f)&&Z26 l):=by simp [Zp]
  rw [hm, e512, epar]
  generalize l.all (Zp f)=a at hall ⊢
  generalize hrr:Z26 l=r
  refine Z7 rfl rfl ?_
  repeat' first|((with_reducible show V _ _ _ _ _ _);first|refine Z48 hd8 rfl rfl ?_|refine Zme rfl (hl _ rfl rfl rfl) ?_|refine Z1 rfl ?_|refine Za rfl rfl ?_|refine Z9 rfl rfl ?_|refine Z7j rfl rfl (fun _=>?_) (fun _=>?_)|refine Z6 rfl rfl ?_)|((with_reducible show VO _ _ _ _ _ _ _);first|refine Zc rfl ?_|refine Z4 rfl lp1 lp2 ?_|refine O_rem rfl rfl rfl ?_|refine Z0 rfl ?_|refine Z2 ?_|refine Zh rfl ?_|refine Zk rfl rfl ?_|refine Zba rfl (fun _=>?_) (fun _=>?_))
  all_goals clear hl hm e256 e512 epar
  all_goals try (rintro x e' st' ⟨rfl, ⟨rfl, rfl, hrv⟩|⟨rfl, rfl, hrv⟩⟩;all_goals rw [hrr] at hrv)
  all_goals repeat' first|refine Z1 rfl ?_|refine Z6 rfl rfl ?_|((with_reducible show VO _ _ _ _ _ _ _);first|refine O_callSP rfl rfl hvl rfl hall ?_|refine Z0 rfl ?_|refine Z2 ?_|refine Zh rfl ?_|refine Zk rfl rfl ?_|refine Zba rfl (fun _=>?_) (fun _=>?_))
  all_goals clear hall hvl
  all_goals first|(simp only [*, Bool.true_and, Bool.and_true, Bool.false_and, Bool.and_false, Bool.true_or, Bool.or_true, Bool.false_or, Bool.or_false, Bool.not_true, Bool.not_false, Bool.not_not];done)|(exfalso;simp_all;done)
 ·clear hl
  have hm:Zp (f+1) (.mk k n s l)=false:=by simp [Zp, *]
  rw [hm]
  refine Z7 rfl rfl ?_
  repeat' first|((with_reducible show V _ _ _ _ _ _);first|refine Z48 hd8 rfl rfl ?_|refine Z48 (decide_eq_false h1) rfl rfl ?_|refine Z48 (decide_eq_false h3) rfl rfl ?_|refine Z48 (decide_eq_false h6) rfl rfl ?_|refine Z48 (decide_eq_false h7) rfl rfl ?_|refine Z48 (decide_eq_false h2) rfl rfl ?_|refine Z48 (decide_eq_false h4) rfl rfl ?_|refine Z48 (decide_eq_false h5) rfl rfl ?_|refine Z1 rfl ?_|refine Z6 rfl rfl ?_)|((with_reducible show VO _ _ _ _ _ _ _);first|refine Zc rfl ?_|refine Z4 rfl lp1 lp2 ?_|refine Z0 rfl ?_|refine Z2 ?_|refine Zh rfl ?_|refine Zk rfl rfl ?_|refine Zba rfl (fun _=>?_) (fun _=>?_))
  all_goals rfl
def allP (P:Val→Bool) (l:List Val):EX→EC→St→Prop:=fun x e' st'=>st'=emptySt∧((x=.exit 0∧l.all P=true)∨(x=.ret∧e'=.put 4 (.bool false) .nil∧l.all P=false))
theorem all2_loop (P:Val→Bool) (d:Int) (l:List Val) (p:PV) (hp:LC l p)
  (hm:∀(j:Nat) (v:Val) (cs:List PV), l[j]?=some v→At 4 p j cs→T.R (.call Z3n [.agg cs, .int .i64 (IntKind.i64.wrap (d+1))] (.bool (P v)))):
  ∀(ra pre:List Val) (e:EC), l=pre++ra→l.all P=ra.all P→e.get 0=some p→e.get 1=some (.int .i64 d)→e.get 5=some (.int .i64 pre.length)→
  V T (PE (allP P l)) [.code (.loop Z3r)] .normal e emptySt:=by
 obtain ⟨lp1, lp2, lp3⟩:=hp.len
 intro ra
 induction ra with
 |nil=>
  intro pre e ha hi h0 h1 h5
  have out:∀(fr:List Fr) (x:EX) (e':EC), Zs 200 fr x=([], .exit 0)→V T (PE (allP P l)) fr x e' emptySt:=fun fr x e' hadv=>Z47 hadv ⟨rfl, .inl ⟨rfl, by rw [hi];rfl⟩⟩
  refine Z0y (.put 0 p (.put 1 _ (.put 5 _ .nil))) (Zq h0 (Zq h1 (Zq h5 Z09))) (Zf ?_)
  repeat' first|refine Z1 rfl ?_|refine Z7j rfl rfl (fun _=>?_) (fun _=>?_)|((with_reducible show VO _ _ _ _ _ _ _);first|refine Z4 rfl lp1 lp2 ?_|refine Z0 rfl ?_|refine Z2 ?_)|refine out _ _ _ rfl
  all_goals (exfalso;clear out;subst ha;simp at *)
 |cons y ra ihr=>
  intro pre e ha hi h0 h1 h5
  refine Z0y (.put 0 p (.put 1 _ (.put 5 _ .nil))) (Zq h0 (Zq h1 (Zq h5 Z09))) (Zf ?_)
  have hy:l[pre.length]?=some y:=by subst ha;simp
  obtain ⟨cy, ay, vy⟩:=hp.at hy
  have ply:=vy.pl
  have hcall:=hm _ y cy hy ay
  cases hyP:P y with
  |true=>
   rw [hyP] at hcall
   have fin:∀(fr:List Fr) (x:EX) (e':EC), Zs 200 fr x=([.code (.loop Z3r)], .normal)→e'.get 0=some p→e'.get 1=some (.int .i64 d)→e'.get 5=some (.int .i64 (IntKind.i64.wrap (pre.length+1)))→V T (PE (allP P l)) fr x e' emptySt:=fun fr x e' hadv g0 g1 g5=>Z5j hadv (by
    have hlt:pre.length<l.length:=by subst ha;simp
    have hw:IntKind.i64.wrap (pre.length+1)=((pre++[y]).length:Int):=by rw [Z01];simp;omega
    rw [hw] at g5
    exact ihr (pre++[y]) e' (by rw [ha];simp) (by rw [hi];simp [hyP]) g0 g1 g5)
   repeat' first|((with_reducible show V _ _ _ _ _ _);first|refine Z1 rfl ?_|refine Z9 rfl rfl ?_|refine Z7j rfl rfl (fun _=>?_) (fun _=>?_))|((with_reducible show VO _ _ _ _ _ _ _);first|refine Z4 rfl lp1 lp2 ?_|refine Zg rfl rfl ay ?_|refine Z07 rfl vy.len4 ?_|refine Z5 rfl rfl hcall ?_|refine Z0 rfl ?_|refine Z2 ?_)|refine fin _ _ _ rfl rfl rfl rfl
   all_goals (exfalso;clear fin ihr hcall hm;subst ha;simp at *;try omega)
  |false=>
   rw [hyP] at hcall
   have ret:∀(fr:List Fr) (x:EX) (e':EC), Zs 200 fr x=([], .ret)→e'.get 4=some (.bool false)→V T (PE (allP P l)) fr x e' emptySt:=fun fr x e' hadv g0=>
    Z0y (.put 4 _ .nil) (Zq g0 Z09) (Z47 hadv ⟨rfl, .inr ⟨rfl, rfl, by rw [hi];simp [hyP]⟩⟩)
   repeat' first|((with_reducible show V _ _ _ _ _ _);first|refine Z1 rfl ?_|refine Za rfl rfl ?_|refine Z7j rfl rfl (fun _=>?_) (fun _=>?_))|((with_reducible show VO _ _ _ _ _ _ _);first|refine Z4 rfl lp1 lp2 ?_|refine Zg rfl rfl ay ?_|refine Z07 rfl vy.len4 ?_|refine Z5 rfl rfl hcall ?_|refine Z0 rfl ?_|refine Z2 ?_)|refine ret _ _ _ rfl rfl
   all_goals (exfalso;clear ihr ret hcall hm;subst ha;simp at *;try omega)
theorem run_all2 (P:Val→Bool) (d:Int) (l:List Val) (p:PV) (hp:LC l p)
  (hm:∀(j:Nat) (v:Val) (cs:List PV), l[j]?=some v→At 4 p j cs→T.R (.call Z3n [.agg cs, .int .i64 (IntKind.i64.wrap (d+1))] (.bool (P v)))):
  T.R (.call Zbv [p, .int .i64 d] (.bool (l.all P))):=by
 have hl:=fun e h0 h1 h2=>all2_loop P d l p hp hm l [] e rfl rfl h0 h1 h2
 generalize hr:l.all P=r at hl ⊢
 refine Z7 rfl rfl ?_
 repeat' first|refine Zme rfl (hl _ rfl rfl rfl) ?_|refine Z1 rfl ?_|refine Z0 rfl ?_|refine Z2 ?_
 rintro x e' st' ⟨rfl, ⟨rfl, h⟩|⟨rfl, rfl, h⟩⟩
 ·repeat' first|refine Z1 rfl ?_|refine Z6 rfl rfl ?_|refine Z0 rfl ?_|refine Z2 ?_
  rw [←hr, h]
 ·repeat' first|refine Z6 rfl rfl ?_
  rw [←hr, h]
def Zqm (l:List Val):EX→EC→St→Prop:=fun x e' st'=>st'=emptySt∧((x=.exit 0∧Z26 l=true)∨(x=.ret∧e'=.put 2 (.bool false) .nil∧Z26 l=false))
theorem rise2_loop (l:List Val) (p:PV) (hp:LC l p):
  ∀(m:Nat) (ra pre:List Val) (e:EC), ra.length≤m→l=pre++ra→Z26 l=Z26 ra→(ra≠[]∨l=[])→e.get 0=some p→e.get 3=some (.int .i64 (pre.length+2))→
  V T (PE (Zqm l)) [.code (.loop Z2z)] .normal e emptySt:=by
 obtain ⟨lp1, lp2, lp3⟩:=hp.len
 intro m
 induction m with
 |zero=>
  intro ra pre e hm hl hr hne h0 h3
  have hra:ra=[]:=by cases ra with
   |nil=>rfl
   |cons y ra=>simp at hm
  have hl0:l=[]:=by
   rcases hne with h|h
   ·exact absurd hra h
   ·exact h
  have hpre:pre=[]:=by rw [hl0] at hl;simp at hl;exact hl.1
  have out:∀(fr:List Fr) (x:EX) (e':EC), Zs 200 fr x=([], .exit 0)→V T (PE (Zqm l)) fr x e' emptySt:=fun fr x e' hadv=>Z47 hadv ⟨rfl, .inl ⟨rfl, by rw [hl0];rfl⟩⟩
  refine Z0y (.put 0 p (.put 3 _ .nil)) (Zq h0 (Zq h3 Z09)) (Zf ?_)
  repeat' first|((with_reducible show V _ _ _ _ _ _);first|refine Z1 rfl ?_|refine Z7j rfl rfl (fun _=>?_) (fun _=>?_)|refine V_D rfl ?_)|((with_reducible show VO _ _ _ _ _ _ _);first|refine Z4 rfl lp1 lp2 ?_|refine Z0 rfl ?_|refine Z2 ?_)|refine Zo rfl ?_|refine out _ _ _ rfl
  all_goals (exfalso;clear out;subst hl0 hpre;simp at *)
 |succ m ihr=>
  intro ra pre e hm hl hr hne h0 h3
  match ra, hm, hl, hr, hne with
  |[], hm, hl, hr, hne=>exact ihr [] pre e (by simp) hl hr hne h0 h3
  |[y], hm, hl, hr, hne=>
   have out:∀(fr:List Fr) (x:EX) (e':EC), Zs 200 fr x=([], .exit 0)→V T (PE (Zqm l)) fr x e' emptySt:=fun fr x e' hadv=>Z47 hadv ⟨rfl, .inl ⟨rfl, by rw [hr];rfl⟩⟩
   refine Z0y (.put 0 p (.put 3 _ .nil)) (Zq h0 (Zq h3 Z09)) (Zf ?_)
   repeat' first|((with_reducible show V _ _ _ _ _ _);first|refine Z1 rfl ?_|refine Z7j rfl rfl (fun _=>?_) (fun _=>?_)|refine V_D rfl ?_)|((with_reducible show VO _ _ _ _ _ _ _);first|refine Z4 rfl lp1 lp2 ?_|refine Z0 rfl ?_|refine Z2 ?_)|refine Zo rfl ?_|refine out _ _ _ rfl
   all_goals (exfalso;clear out;subst hl;simp at *;try omega)
  |[y, z], hm, hl, hr, hne=>
   have out:∀(fr:List Fr) (x:EX) (e':EC), Zs 200 fr x=([], .exit 0)→V T (PE (Zqm l)) fr x e' emptySt:=fun fr x e' hadv=>Z47 hadv ⟨rfl, .inl ⟨rfl, by rw [hr];rfl⟩⟩
   refine Z0y (.put 0 p (.put 3 _ .nil)) (Zq h0 (Zq h3 Z09)) (Zf ?_)
   repeat' first|((with_reducible show V _ _ _ _ _ _);first|refine Z1 rfl ?_|refine Z7j rfl rfl (fun _=>?_) (fun _=>?_)|refine V_D rfl ?_)|((with_reducible show VO _ _ _ _ _ _ _);first|refine Z4 rfl lp1 lp2 ?_|refine Z0 rfl ?_|refine Z2 ?_)|refine Zo rfl ?_|refine out _ _ _ rfl
   all_goals (exfalso;clear out;subst hl;simp at *)
  |y::z::w::ra, hm, hl, hr, hne=>
   have hlt:pre.length+2<l.length:=by subst hl;simp
   have hy:l[pre.length]?=some y:=by subst hl;simp
   have hw:l[pre.length+2]?=some w:=by subst hl;simp
   obtain ⟨cy, ay, vy⟩:=hp.at hy
   obtain ⟨cw, aw, vw⟩:=hp.at hw
   have ply:=vy.pl
   have plw:=vw.pl
   have hcall:=Zlq vy w cw vw
   have ay':At 4 p (IntKind.i64.wrap ((pre.length:Int)+2-2)) cy:=by
    have:IntKind.i64.wrap ((pre.length:Int)+2-2)=(pre.length:Int):=by rw [Z01];omega
    rw [this];exact ay
   have aw':At 4 p ((pre.length:Int)+2) cw:=by
    have:((pre.length+2:Nat):Int)=(pre.length:Int)+2:=by omega
    rw [←this];exact aw
   have hr':Z26 l=(decide (Zgz y w<0)&&Z26 (w::ra)):=by rw [hr];rfl
   generalize Zgz y w=r at hcall hr'
   by_cases hrr:r<0
   ·have fin:∀(fr:List Fr) (x:EX) (e':EC), Zs 200 fr x=([.code (.loop Z2z)], .normal)→e'.get 0=some p→e'.get 3=some (.int .i64 (IntKind.i64.wrap ((pre.length:Int)+2+2)))→V T (PE (Zqm l)) fr x e' emptySt:=fun fr x e' hadv g0 g3=>Z5j hadv (by
     have hw:IntKind.i64.wrap ((pre.length:Int)+2+2)=((pre++[y, z]).length:Int)+2:=by rw [Z01];simp;omega
     rw [hw] at g3
     exact ihr (w::ra) (pre++[y, z]) e' (by simp at hm ⊢;omega) (by rw [hl];simp) (by rw [hr', decide_eq_true hrr];rfl) (.inl (by simp)) g0 g3)
    refine Z0y (.put 0 p (.put 3 _ .nil)) (Zq h0 (Zq h3 Z09)) (Zf ?_)
    repeat' first|((with_reducible show V _ _ _ _ _ _);first|refine Z1 rfl ?_|refine Z7j rfl rfl (fun _=>?_) (fun _=>?_)|refine V_D rfl ?_)|((with_reducible show VO _ _ _ _ _ _ _);first|refine Z4 rfl lp1 lp2 ?_|refine Z0 rfl ?_|refine Z2 ?_)|((with_reducible show VD _ _ _ _ _ _ _);first|refine Z40 rfl rfl ay' ?_|refine Z40 rfl rfl aw' ?_|refine Z3y rfl vy.len4 ?_|refine Z3y rfl vw.len4 ?_|refine Zn5 rfl rfl hcall ?_|refine Zo rfl ?_|refine Z0a ?_)|refine fin _ _ _ rfl rfl rfl
    all_goals (exfalso;clear fin ihr hcall;simp at *;try omega)
   ·have ret:∀(fr:List Fr) (x:EX) (e':EC), Zs 200 fr x=([], .ret)→e'.get 2=some (.bool false)→V T (PE (Zqm l)) fr x e' emptySt:=fun fr x e' hadv g0=>
     Z0y (.put 2 _ .nil) (Zq g0 Z09) (Z47 hadv ⟨rfl, .inr ⟨rfl, rfl, by rw [hr', decide_eq_false hrr];rfl⟩⟩)
    refine Z0y (.put 0 p (.put 3 _ .nil)) (Zq h0 (Zq h3 Z09)) (Zf ?_)
    repeat' first|((with_reducible show V _ _ _ _ _ _);first|refine Z1 rfl ?_|refine Z7j rfl rfl (fun _=>?_) (fun _=>?_)|refine V_D rfl ?_)|((with_reducible show VO _ _ _ _ _ _ _);first|refine Z4 rfl lp1 lp2 ?_|refine Z0 rfl ?_|refine Z2 ?_)|((with_reducible show VD _ _ _ _ _ _ _);first|refine Z40 rfl rfl ay' ?_|refine Z40 rfl rfl aw' ?_|refine Z3y rfl vy.len4 ?_|refine Z3y rfl vw.len4 ?_|refine Zn5 rfl rfl hcall ?_|refine Zo rfl ?_|refine Z0a ?_)|refine ret _ _ _ rfl rfl
    all_goals (exfalso;clear ihr ret hcall;simp at *;try omega)
theorem run_rises2 (l:List Val) (p:PV) (hp:LC l p):T.R (.call Z9p [p] (.bool (Z26 l))):=by
 have hl:=fun e h0 h1=>rise2_loop l p hp l.length l [] e (Nat.le_refl _) rfl rfl (by cases l<;>simp) h0 h1
 generalize hr:Z26 l=r at hl ⊢
 refine Z7 rfl rfl ?_
 repeat' first|refine Zme rfl (hl _ rfl rfl) ?_|refine Z1 rfl ?_|refine Z0 rfl ?_|refine Z2 ?_
 rintro x e' st' ⟨rfl, ⟨rfl, h⟩|⟨rfl, rfl, h⟩⟩
 ·repeat' first|refine Z1 rfl ?_|refine Z6 rfl rfl ?_|refine Z0 rfl ?_|refine Z2 ?_
  rw [←hr, h]
 ·repeat' first|refine Z6 rfl rfl ?_
  rw [←hr, h]
theorem LC.el {l:List Val} {p:PV} (h:LC l p) {j:Nat} {v:Val} {cs:List PV} (hv:l[j]?=some v) (ha:At 4 p j cs):VC v cs:=by
 obtain ⟨cs', ha', hc⟩:=h.at hv
 obtain ⟨_, _, xs, f, rfl, h1⟩:=ha
 obtain ⟨_, _, ys, g, he, h2⟩:=ha'
 injection he with he1 he2
 subst he1
 rw [h1] at h2
 injection h2 with h2
 subst h2
 exact hc
theorem run_may2:∀(f:Nat) (d:Int), d+f=8→0≤d→∀(v:Val) (cs:List PV), VC v cs→T.R (.call Z3n [.agg cs, .int .i64 d] (.bool (Zp f v))):=by
 intro f
 induction f with
 |zero=>
  intro d hd h0 v cs hv
  obtain ⟨k, n, s, l⟩:=v
  obtain ⟨hk, hn, hs, p, rfl, hp⟩:=hv.open
  have plp:=hp.pl
  refine Z7 rfl rfl ?_
  repeat' first|((with_reducible show V _ _ _ _ _ _);first|refine Z1 rfl ?_|refine Z7j rfl rfl (fun _=>?_) (fun _=>?_)|refine Z6 rfl rfl ?_)|((with_reducible show VO _ _ _ _ _ _ _);first|refine Zc rfl ?_|refine Z0 rfl ?_|refine Z2 ?_|refine Zh rfl ?_|refine Z3x rfl ?_|refine Zk rfl rfl ?_|refine Zba rfl (fun _=>?_) (fun _=>?_))
  ·rfl
  all_goals (exfalso;simp at *;omega)
 |succ f ih=>
  intro d hd h0 v cs hv
  obtain ⟨k, n, s, l⟩:=v
  obtain ⟨hk, hn, hs, p, rfl, hp⟩:=hv.open
  have hw:IntKind.i64.wrap (d+1)=d+1:=by rw [Z01];omega
  exact run_may2_step f d ⟨by omega, h0⟩ k n s l p hp (run_all2 (Zp f) d l p hp (fun j v cs hj ha=>by
   rw [hw]
   exact ih (d+1) (by omega) (by omega) v cs (hp.el hj ha))) (run_rises2 l p hp)
theorem all_any (P:Val→Bool) (l:List Val):(l.any fun v=>!P v)=!l.all P:=by
 induction l with
 |nil=>rfl
 |cons v l ih=>simp [ih]
theorem run_may:∀(f:Nat) (d:Int), d+f=9→0≤d→∀(v:Val) (cs:List PV), VC v cs→T.R (.call Zht [.agg cs, .int .i64 d] (.bool (Zp f v))):=by
 intro f
 induction f with
 |zero=>
  intro d hd h0 v cs hv
  obtain ⟨k, n, s, l⟩:=v
  obtain ⟨hk, hn, hs, p, rfl, hp⟩:=hv.open
  have plp:=hp.pl
  refine Z7 rfl rfl ?_
  repeat' first|((with_reducible show V _ _ _ _ _ _);first|refine Z1 rfl ?_|refine Z7j rfl rfl (fun _=>?_) (fun _=>?_)|refine Z6 rfl rfl ?_)|((with_reducible show VO _ _ _ _ _ _ _);first|refine Zc rfl ?_|refine Z0 rfl ?_|refine Z2 ?_|refine Zh rfl ?_|refine Z3x rfl ?_|refine Zk rfl rfl ?_|refine Zba rfl (fun _=>?_) (fun _=>?_))
  ·rfl
  all_goals (exfalso;simp at *;omega)
 |succ f ih=>
  intro d hd h0 v cs hv
  obtain ⟨k, n, s, l⟩:=v
  obtain ⟨hk, hn, hs, p, rfl, hp⟩:=hv.open
  have h:=Zmf (fun v=>!Zp f v) Z51 [.iptr [.int .i64 d] 0] (Z0s (.iptr _ _ (Z0s (.int _ _) Z31)) Z31) l p hp (fun j v cs hj ha=>
   run_may1 f d ⟨by omega, h0⟩ v cs (hp.el hj ha) (ih (d+1) (by omega) (by omega) v cs (hp.el hj ha)))
  rw [all_any] at h
  exact run_may_step f d ⟨by omega, h0⟩ k n s l p hp h
def chk (v:Val):Int:=if Zp 8 v then 0 else 20
theorem run_Check2 {v:Val} {cs:List PV} (hv:VC v cs):T.R (.call Z4c [.agg cs] (.int .i64 (chk v))):=by
 have h:=run_may2 8 0 (by omega) (by omega) v cs hv
 unfold chk
 generalize Zp 8 v=r at h ⊢
 obtain ⟨k, n, s, l⟩:=v
 obtain ⟨hk, hn, hs, p, rfl, hp⟩:=hv.open
 have plp:=hp.pl
 refine Z7 rfl rfl ?_
 repeat' first|((with_reducible show V _ _ _ _ _ _);first|refine Z1 rfl ?_|refine Z7j rfl rfl (fun _=>?_) (fun _=>?_)|refine Z6 rfl rfl ?_)|((with_reducible show VO _ _ _ _ _ _ _);first|refine Zc rfl ?_|refine Z5 rfl rfl h ?_|refine Z0 rfl ?_|refine Z2 ?_)
 all_goals simp_all
theorem run_Check {v:Val} {cs:List PV} (hv:VC v cs):T.R (.call Zcd [.agg cs] (.int .i64 (chk v))):=by
 have h:=run_may 8 1 (by omega) (by omega) v cs hv
 unfold chk
 generalize Zp 8 v=r at h ⊢
 obtain ⟨k, n, s, l⟩:=v
 obtain ⟨hk, hn, hs, p, rfl, hp⟩:=hv.open
 have plp:=hp.pl
 refine Z7 rfl rfl ?_
 repeat' first|((with_reducible show V _ _ _ _ _ _);first|refine Z1 rfl ?_|refine Z7j rfl rfl (fun _=>?_) (fun _=>?_)|refine Z6 rfl rfl ?_)|((with_reducible show VO _ _ _ _ _ _ _);first|refine Zc rfl ?_|refine Z5 rfl rfl h ?_|refine Z0 rfl ?_|refine Z2 ?_)
 all_goals simp_all
def cutB (c:UInt8):List UInt8→Option (List UInt8×List UInt8)
 |[]=>none
 |b::l=>if b=c then some ([], l) else (cutB c l).map fun p=>(b::p.1, p.2)
def idxI (c:UInt8) (s:List UInt8):Int:=match cutB c s with
 |none => -1
 |some p=>p.1.length
theorem cutB_some {c:UInt8}:∀ {s x y:List UInt8}, cutB c s=some (x, y)→s=x++c::y∧c∉x
 |[], x, y, h=>by cases h
 |b::l, x, y, h=>by
  rw [cutB] at h
  split at h
  ·rename_i hb
   injection h with h
   injection h with h1 h2
   subst h1 h2 hb
   exact ⟨rfl, by simp⟩
  ·rename_i hb
   cases hc:cutB c l with
   |none=>rw [hc] at h;cases h
   |some p=>
    obtain ⟨a, d⟩:=p
    rw [hc] at h
    injection h with h
    injection h with h1 h2
    subst h1 h2
    obtain ⟨i1, i2⟩:=cutB_some hc
    exact ⟨by rw [i1];rfl, by simp [i2, Ne.symm hb]⟩
theorem cutB_none {c:UInt8}:∀ {s:List UInt8}, cutB c s=none→c∉s
 |[], h=>by simp
 |b::l, h=>by
  rw [cutB] at h
  split at h
  ·cases h
  ·rename_i hb
   cases hc:cutB c l with
   |none=>simp [cutB_none hc, Ne.symm hb]
   |some p=>rw [hc] at h;cases h
theorem idxI_lib (c:UInt8):∀s:List UInt8, Lib.indexByte s c=idxI c s
 |[]=>rfl
 |b::l=>by
  have ih:=idxI_lib c l
  rw [Lib.indexByte]
  unfold idxI at ih ⊢
  rw [cutB]
  by_cases hb:b=c
  ·subst hb;simp
  ·rw [if_neg hb, if_neg (by simpa using hb), ih]
   cases hc:cutB c l with
   |none=>rfl
   |some p=>
    simp only [Option.map_some, List.length_cons]
    rw [if_neg (by simp)]
    rfl
theorem u8_back (c:UInt8):((c.toNat:Int)).toNat.toUInt8=c:=by simp [Nat.toUInt8]
theorem run_IdxByteS (s:List UInt8) (c:UInt8):T.R (.call Zce [.str s, .int .u8 c.toNat] (.int .i64 (idxI c s))):=by
 have hx:T.ext Z1y [.str s, .int .u8 c.toNat] (.int .i64 (idxI c s)):=X_idx ⟨rfl, s, c.toNat, rfl, by rw [u8_back, idxI_lib]⟩
 generalize idxI c s=r at hx ⊢
 refine Z7 rfl rfl ?_
 repeat' first|refine Z1 rfl ?_|refine Z6 rfl rfl ?_|((with_reducible show VO _ _ _ _ _ _ _);first|refine O_extP rfl rfl (Z0c) rfl hx ?_|refine Z0 rfl ?_|refine Z2 ?_)
 rfl
theorem run_SIndex1 (s:List UInt8) (c:UInt8):T.R (.call Zhu [.str s, .str [c]] (.int .i64 (idxI c s))):=by
 have hx:=run_IdxByteS s c
 have hch:([c]:List UInt8)[(0:Int).toNat]?=some c:=rfl
 have h0:[c]=s→idxI c s=0:=fun h=>by subst h;simp [idxI, cutB]
 generalize idxI c s=r at hx h0 ⊢
 refine Z7 rfl rfl ?_
 repeat' first|((with_reducible show V _ _ _ _ _ _);first|refine Z1 rfl ?_|refine Za rfl rfl ?_|refine Z7j rfl rfl (fun _=>?_) (fun _=>?_)|refine Z6 rfl rfl ?_)|((with_reducible show VO _ _ _ _ _ _ _);first|refine Zn4 c rfl rfl (by decide) hch ?_|refine Z5 rfl rfl hx ?_|refine Z0 rfl ?_|refine Z2 ?_|refine Zh rfl ?_)
 all_goals first|rfl|(rename_i h;rw [h0 (of_decide_eq_true h)])
theorem run_Index1S (s:List UInt8) (c:UInt8):T.R (.call Zeq [.str s, .str [c]] (.int .i64 (idxI c s))):=by
 have hx:=run_SIndex1 s c
 generalize idxI c s=r at hx ⊢
 refine Z7 rfl rfl ?_
 repeat' first|refine Z1 rfl ?_|refine Z6 rfl rfl ?_|((with_reducible show VO _ _ _ _ _ _ _);first|refine Z5 rfl rfl hx ?_|refine Z0 rfl ?_|refine Z2 ?_)
 rfl
theorem sliceTo {s:List UInt8} {k:IntKind} {n:Nat} (h:n≤s.length):sliceStr? none (some (.int k (n:Int))) (.str s)=some (.str (s.take n)):=by
 have h1:((0:Int)≤n∧(n:Int)≤s.length):=by omega
 simp [sliceStr?, Z5p?, h]
theorem sliceFrom {s:List UInt8} {k:IntKind} {n:Nat} (h:n≤s.length):sliceStr? (some (.int k (n:Int))) none (.str s)=some (.str (s.drop n)):=by
 simp [sliceStr?, Z5p?, h]
 exact List.take_of_length_le (by simp)
theorem run_Count1 (s:List UInt8) (c:UInt8):T.R (.call Zoj [.str s, .str [c]] (.int .i64 (s.count c))):=by
 have hx:T.ext Z3h [.str s, .int .u8 c.toNat] (.int .i64 (s.count c:Nat)):=X_cnt ⟨rfl, s, c.toNat, rfl, by rw [u8_back]⟩
 have hch:([c]:List UInt8)[(0:Int).toNat]?=some c:=rfl
 generalize (s.count c:Nat)=r at hx ⊢
 refine Z7 rfl rfl ?_
 repeat' first|((with_reducible show V _ _ _ _ _ _);first|refine Z1 rfl ?_|refine Za rfl rfl ?_|refine Z9 rfl rfl ?_|refine Z6 rfl rfl ?_)|((with_reducible show VO _ _ _ _ _ _ _);first|refine Zn4 c rfl rfl (by decide) hch ?_|refine O_extP rfl rfl (Z0c) rfl hx ?_|refine Z0 rfl ?_|refine Z2 ?_)
 rfl
def Z0u (c:UInt8):List UInt8→List (List UInt8)
 |[]=>[[]]
 |b::l=>if b=c then []::Z0u c l else match Z0u c l with
  |[]=>[[b]]
  |p::ps=>(b::p)::ps
theorem Zh9 {c:UInt8}:∀ {s:List UInt8}, c∉s→Z0u c s=[s]
 |[], _=>rfl
 |b::l, h=>by
  simp only [List.mem_cons, not_or] at h
  rw [Z0u, if_neg (Ne.symm h.1), Zh9 h.2]
theorem Zkm {c:UInt8}:∀ {x y:List UInt8}, c∉x→Z0u c (x++c::y)=x::Z0u c y
 |[], y, _=>by rw [List.nil_append, Z0u, if_pos rfl]
 |b::x, y, h=>by
  simp only [List.mem_cons, not_or] at h
  rw [List.cons_append, Z0u, if_neg (Ne.symm h.1), Zkm h.2]
theorem Zkl (c:UInt8):∀s:List UInt8, (Z0u c s).length=s.count c+1
 |[]=>rfl
 |b::l=>by
  have ih:=Zkl c l
  rw [Z0u, List.count_cons]
  by_cases hb:b=c
  ·rw [if_pos hb];simp [ih, hb]
  ·rw [if_neg hb]
   cases hl:Z0u c l with
   |nil=>rw [hl] at ih;simp at ih
   |cons p ps=>rw [hl] at ih;simp at ih;simp [hb];omega
def sc (s:List UInt8):List PV:=[.str s]
def rowS (es:List (List UInt8)):St:=⟨0, 1, [(0, .row 0 1 (es.map sc) true)]⟩
theorem pl_sc (l:List (List UInt8)):∀cs∈l.map sc, ∀c∈cs, Pl c:=fun cs h=>by
 obtain ⟨n, _, rfl⟩:=List.mem_map.1 h
 exact Z0s (.str _) Z31
theorem set_done (done:List (List UInt8)) (x:List UInt8) (k:Nat):((done++List.replicate (k+1) []).map sc).set done.length [.str x]=((done++[x]++List.replicate k []).map sc):=by
 rw [List.map_append, List.set_append_right _ _ (by simp), List.length_map, Nat.sub_self, List.replicate_succ]
 simp [sc]
theorem get_done (done:List (List UInt8)) (k:Nat):((done++List.replicate (k+1) []).map sc)[done.length]?=some [.str []]:=by
 rw [List.map_append, List.getElem?_append_right (by simp), List.length_map, Nat.sub_self, List.replicate_succ]
 rfl
theorem split_loop (c:UInt8) (N:Nat) (hN:N≤9223372036854775800):∀(k:Nat) (s:List UInt8) (done:List (List UInt8)), s.count c=k→s.length≤9223372036854775800→done.length+k=N→
  V T (PE fun x e st'=>x=.exit 0∧∃(d:List (List UInt8)) (r:List UInt8), d++[r]=done++Z0u c s∧d.length=N∧e=Ze [(0, .str r), (9, .osl 0 0 0 (N+1) false), (10, .int .i64 N)]∧st'=rowS (d++[[]])) [.code (.loop Z72)] .normal (Ze [(0, .str s), (1, .str [c]), (2, .int .i64 0), (3, .int .i64 N), (9, .osl 0 0 0 (N+1) false), (10, .int .i64 done.length)]) (rowS (done++List.replicate (k+1) [])):=by
 intro k
 induction k with
 |zero=>
  intro s done hk hs hd
  have hdn:done.length=N:=by omega
  have hlt:decide ((done.length:Int)<(N:Int))=false:=decide_eq_false (by omega)
  have hns:c∉s:=by rw [←List.count_eq_zero];exact hk
  refine Zf ?_
  repeat' first|((with_reducible show V _ _ _ _ _ _);first|refine Z48 hlt rfl rfl ?_|refine Zr [(0, .str s), (9, .osl 0 0 0 (N+1) false), (10, .int .i64 N)] rfl ⟨rfl, rfl, Z04 (by omega), trivial⟩ ⟨rfl, done, s, by rw [Zh9 hns], hdn, rfl, rfl⟩|refine Z1 rfl ?_)|refine Z0 rfl ?_|refine Z2 ?_
 |succ k ih=>
  intro s done hk hs hd
  have hlt:decide ((done.length:Int)<(N:Int))=true:=decide_eq_true (by omega)
  cases hc:cutB c s with
  |none=>
   have:=List.count_eq_zero.2 (cutB_none hc)
   omega
  |some p=>
   obtain ⟨x, y⟩:=p
   obtain ⟨hsx, hnx⟩:=cutB_some hc
   have hx:=run_Index1S s c
   unfold idxI at hx
   rw [hc] at hx
   have hx':T.R (.call Zeq [.str s, .str [c]] (.int .i64 (x.length:Int))):=hx
   have hl0:¬(x.length:Int)<0:=by omega
   have hl1:x.length≤s.length:=by rw [hsx];simp
   have h1:=sliceTo (k:=.i64) hl1
   have h2:=sliceFrom (s:=s) (k:=.i64) (n:=x.length+1) (by rw [hsx];simp)
   have t1:s.take x.length=x:=by rw [hsx];simp
   have t2:s.drop (x.length+1)=y:=by rw [hsx];simp
   rw [t1] at h1
   rw [t2] at h2
   have hw0:PV.int .i64 (IntKind.i64.wrap ((x.length:Int)+0))=PV.int .i64 (x.length:Int):=Z5e (by rw [Z01];omega)
   have hw1:PV.int .i64 (IntKind.i64.wrap ((x.length:Int)+1))=PV.int .i64 ((x.length+1:Nat):Int):=Z5e (by rw [Z01];omega)
   have hw:IntKind.i64.wrap ((done.length:Int)+1)=((done++[x]).length:Int):=by rw [Z01];simp;omega
   have hcy:y.count c=k:=by rw [hsx] at hk;simp [List.count_append, List.count_eq_zero.2 hnx] at hk;omega
   have hi:=ih y (done++[x]) hcy (by rw [hsx] at hs;simp at hs;omega) (by simp;omega)
   have hres:done++[x]++Z0u c y=done++Z0u c s:=by rw [hsx, Zkm hnx];simp
   rw [hres] at hi
   have hgd:((done++List.replicate (k+1+1) []).map sc)[0+((done.length:Int)).toNat]?=some [.str []]:=by
    have:=get_done done (k+1)
    simpa using this
   have hst:(rowS (done++List.replicate (k+1+1) [])).put 0 (.row 0 1 (((done++List.replicate (k+1+1) []).map sc).set (0+((done.length:Int)).toNat) [.str x]) true)=rowS (done++[x]++List.replicate (k+1) []):=by
    have:=set_done done x (k+1)
    simp only [Nat.zero_add, Int.toNat_natCast]
    rw [this]
    rfl
   refine Zf ?_
   repeat' first|((with_reducible show V _ _ _ _ _ _);first|refine Z15 hlt rfl rfl ?_|refine Z48 (decide_eq_false hl0) rfl rfl ?_|refine V_st hst (Z7z rfl hi ⟨rfl, rfl, rfl, rfl, rfl, Z04 hw, trivial⟩)|refine Z1 rfl ?_)|((with_reducible show VO _ _ _ _ _ _ _);first|refine Z5 rfl rfl hx' ?_|refine Z3 hw0 rfl ?_|refine Z3 hw1 rfl ?_|refine Z0 h1 ?_|refine Z0 h2 ?_|refine O_idxOwn rfl rfl rfl (by omega) ?_|refine O_storeR rfl rfl rfl rfl rfl hgd ?_|refine Z0 rfl ?_|refine Z2 ?_)
theorem run_genSplit (s:List UInt8) (c:UInt8) (hs:s.length≤1000000000):T.R (.call Zjq [.str s, .str [c], .int .i64 0, .int .i64 (-1)] (.sl ((Z0u c s).map sc) false)):=by
 have hcnt:=run_Count1 s c
 have hcl:s.count c≤s.length:=List.count_le_length
 have hl:=split_loop c (s.count c) (by omega) (s.count c) s [] rfl (by omega) (by simp)
 rw [List.nil_append, List.nil_append] at hl
 generalize hn:s.count c=n at *
 have hw1:PV.int .i64 (IntKind.i64.wrap ((n:Int)+1))=PV.int .i64 ((n+1:Nat):Int):=Z5e (by rw [Z01];omega)
 have hw2:PV.int .i64 (IntKind.i64.wrap ((s.length:Int)+1))=PV.int .i64 ((s.length+1:Nat):Int):=Z5e (by rw [Z01];omega)
 have hmin:PV.int .i64 (if false=true then (if ((s.length+1:Nat):Int)>((n+1:Nat):Int) then ((s.length+1:Nat):Int) else ((n+1:Nat):Int)) else if ((s.length+1:Nat):Int)<((n+1:Nat):Int) then ((s.length+1:Nat):Int) else ((n+1:Nat):Int))=PV.int .i64 ((n+1:Nat):Int):=Z5e (by rw [if_neg (by simp), if_neg (by omega)])
 have hw3:PV.int .i64 (IntKind.i64.wrap (((n+1:Nat):Int)-1))=PV.int .i64 (n:Int):=Z5e (by rw [Z01];omega)
 have hm0:(emptySt.new (.row 0 1 (List.replicate (n+1) [.str []]) true))=rowS (List.replicate (n+1) []):=by
  unfold rowS
  rw [List.map_replicate]
  rfl
 refine Z7 rfl rfl ?_
 repeat' first|((with_reducible show V _ _ _ _ _ _);first|refine V_st hm0 (Z08 rfl hl ⟨rfl, rfl, rfl, rfl, rfl, rfl, trivial⟩ ?_)|refine Z1 rfl ?_|refine Za rfl rfl ?_|refine Z9 rfl rfl ?_)|((with_reducible show VO _ _ _ _ _ _ _);first|refine Z5 rfl rfl hcnt ?_|refine Z3 hw1 rfl ?_|refine Z3 hw2 rfl ?_|refine Z3 hmin rfl ?_|refine Z3 hw3 rfl ?_|refine O_makeN (N:=n+1) rfl rfl rfl rfl (by simp only [Z05];omega) ?_|refine Z0 rfl ?_|refine Z2 ?_)
 rintro x e' st' ⟨rfl, d, r, hd, hdl, rfl, rfl⟩
 have hgd:((d++[[]]).map sc)[0+((n:Int)).toNat]?=some [.str []]:=by
  have:=get_done d 0
  rw [hdl] at this
  simpa using this
 have hset:((d++[[]]).map sc).set (0+((n:Int)).toNat) [.str r]=(d++[r]).map sc:=by
  have:=set_done d r 0
  rw [hdl] at this
  simpa using this
 have hst:(rowS (d++[[]])).put 0 (.row 0 1 (((d++[[]]).map sc).set (0+((n:Int)).toNat) [.str r]) true)=rowS (Z0u c s):=by
  rw [hset, hd]
  rfl
 have hlen:(Z0u c s).length=n+1:=by rw [Zkl, hn]
 have hsl:sliceSl? (rowS (Z0u c s)).get 1 none (some (.int .i64 ((n+1:Nat):Int))) none (.osl 0 0 0 (n+1) false)=some (.osl 0 0 0 (n+1) false):=by
  have h1:((0:Int)≤(n:Int)+1):=by omega
  simp [sliceSl?, Z5p?, lenOf, rowS, St.get, Zd, h1]
 repeat' first|((with_reducible show V _ _ _ _ _ _);first|refine V_st hst ?_|refine Z8u rfl rfl (Zio (es:=(Z0u c s).map sc) rfl (.inl rfl) (by rw [List.length_map, hlen]) (pl_sc _)) rfl|refine Z1 rfl ?_)|((with_reducible show VO _ _ _ _ _ _ _);first|refine Z3 hw1 rfl ?_|refine O_idxOwn rfl rfl rfl (by omega) ?_|refine O_storeR rfl rfl rfl rfl rfl hgd ?_|refine Z0 hsl ?_|refine Z0 rfl ?_|refine Z2 ?_)
theorem run_Split (s:List UInt8) (c:UInt8) (hs:s.length≤1000000000):T.R (.call Zoi [.str s, .str [c]] (.sl ((Z0u c s).map sc) false)):=by
 have hx:=run_genSplit s c hs
 have plv:Pl (.sl ((Z0u c s).map sc) false):=.sl _ _ (pl_sc _)
 refine Z7 rfl rfl ?_
 repeat' first|refine Z1 rfl ?_|refine Z6 rfl rfl ?_|((with_reducible show VO _ _ _ _ _ _ _);first|refine Z5 rfl rfl hx ?_|refine Z0 rfl ?_|refine Z2 ?_)
 rfl
end Go.Proofs.YtnedeokclnbcpaaGreatDoor
