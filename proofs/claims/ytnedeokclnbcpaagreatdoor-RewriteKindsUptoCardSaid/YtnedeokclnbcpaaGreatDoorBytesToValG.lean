/- Nothing: where no bytes are asked. · Values: what they are over plain cells; how two stand. · How values stand: plain laws. · How two values stand: rambleref02.Compare, Same, SameAll. · How two values stand: value.Compare; whether they are the same. · How two values stand: value.Compare. · Whether two values are the same; whether all are; whether a value may be: rambleref02. · rambleref02.may, one step. · value.may, one step. -/
import Derived.Test.YtnedeokclnbcpaaGreatDoorT
import Derived.Test.YtnedeokclnbcpaaGreatDoorAmZ
set_option linter.unusedVariables false
set_option linter.unusedSimpArgs false
namespace Go.Proofs.YtnedeokclnbcpaaGreatDoor
open Go Go.AM Go.RowKit
inductive Val where
 |mk (kind n:Int) (s:List UInt8) (l:List Val)
def Val.kind:Val→Int
 |.mk k _ _ _=>k
def Val.n:Val→Int
 |.mk _ n _ _=>n
def Val.s:Val→List UInt8
 |.mk _ _ s _=>s
def Val.l:Val→List Val
 |.mk _ _ _ l=>l
def Zr (x:Int):Prop := -9223372036854775808≤x∧x≤9223372036854775807
inductive VC:Val→List PV→Prop
 |nil (k n:Int) (s:List UInt8) (hk:Zr k) (hn:Zr n) (hs:s.length≤140737488355328):VC (.mk k n s []) [.int .i64 k, .int .i64 n, .str s, .nilSl]
 |sl (k n:Int) (s:List UInt8) (l:List Val) (xs:List (List PV)) (full:Bool) (hk:Zr k) (hn:Zr n) (hs:s.length≤140737488355328) (hb:l.length≤140737488355328) (hl:xs.length=l.length)
   (h:∀(j:Nat) (v:Val) (cs:List PV), l[j]?=some v→xs[j]?=some cs→VC v cs):VC (.mk k n s l) [.int .i64 k, .int .i64 n, .str s, .sl xs full]
theorem VC.pl {v:Val} {cs:List PV} (h:VC v cs):∀c∈cs, Pl c:=by
 induction h with
 |nil k n s=>exact Z0r (.int _ _) (Z0r (.int _ _) (Z0r (.str _) (Z0r .nilSl Z2w)))
 |sl k n s l xs full hk hn hs hb hl h ih=>
  refine Z0r (.int _ _) (Z0r (.int _ _) (Z0r (.str _) (Z0r (.sl _ _ fun cs hcs c hc=>?_) Z2w)))
  obtain ⟨j, hj⟩:=List.getElem?_of_mem hcs
  have hlt:j<l.length:=by have:=(List.getElem?_eq_some_iff.1 hj).1;omega
  exact ih j l[j] cs (List.getElem?_eq_getElem hlt) hj c hc
def Zoa (a b:Int):Int:=if a<b then -1 else if b<a then 1 else 0
theorem Zhx (a b:Int):T.R (.call Zb3 [.int .i64 a, .int .i64 b] (.int .i64 (Zoa a b))):=by
 refine Z7 rfl rfl ?_
 repeat' first|((with_reducible show V _ _ _ _ _ _);first|refine Z1 rfl ?_|refine Z96 rfl rfl (fun _=>?_) (fun _=>?_)|refine Z4 rfl rfl ?_)|refine Z0 rfl ?_|refine Z2 ?_
 all_goals simp only [decide_eq_true_eq, decide_eq_false_iff_not] at *
 all_goals unfold Zoa
 all_goals simp [*]
def Zl1:List UInt8→List UInt8→Int
 |[], []=>0
 |[], _::_ => -1
 |_::_, []=>1
 |a::x, b::y=>if a=b then Zl1 x y else Zoa a.toNat b.toNat
theorem cmpS_pre:∀(p x y:List UInt8), Zl1 (p++x) (p++y)=Zl1 x y
 |[], x, y=>rfl
 |a::p, x, y=>by simp only [List.cons_append, Zl1, if_true];exact cmpS_pre p x y
def textP (a b:List UInt8):EX→EC→St→Prop:=fun x e' st'=>st'=emptySt∧((x=.exit 0∧e'=.put 0 (.str a) (.put 1 (.str b) .nil)∧Zoa a.length b.length=Zl1 a b)∨(x=.ret∧e'=.put 4 (.int .i64 (Zl1 a b)) .nil))
theorem text_loop (a b:List UInt8) (hla:a.length≤9223372036854775806):∀(ra rb pre:List UInt8) (e:EC), a=pre++ra→b=pre++rb→e.get 0=some (.str a)→e.get 1=some (.str b)→e.get 5=some (.int .i64 pre.length)→
  V T (PE (textP a b)) [.code (.loop Z34)] .normal e emptySt:=by
 have out:∀(ra rb pre:List UInt8) (k:List Fr) (x:EX) (e':EC), a=pre++ra→b=pre++rb→ra=[]∨rb=[]→Zp 200 k x=([], .exit 0)→e'.get 0=some (.str a)→e'.get 1=some (.str b)→V T (PE (textP a b)) k x e' emptySt:=fun ra rb pre k x e' ha hb hn hadv g0 g1=>
  Z12 (.put 0 (.str a) (.put 1 (.str b) .nil)) (Zo g0 (Zo g1 Z08)) (Z4n hadv ⟨rfl, .inl ⟨rfl, rfl, by
   rw [ha, hb, cmpS_pre]
   rcases hn with rfl|rfl
   ·cases rb<;>simp [Zl1, Zoa]<;>omega
   ·cases ra<;>simp [Zl1, Zoa]<;>omega⟩⟩)
 intro ra
 induction ra with
 |nil=>
  intro rb pre e ha hb h0 h1 h5
  refine Z12 (.put 0 (.str a) (.put 1 (.str b) (.put 5 (.int .i64 pre.length) .nil))) (Zo h0 (Zo h1 (Zo h5 Z08))) (Ze ?_)
  repeat' first|((with_reducible show V _ _ _ _ _ _);first|refine Z1 rfl ?_|refine Zb rfl rfl ?_|refine Z96 rfl rfl (fun _=>?_) (fun _=>?_)|refine V_D rfl ?_)|((with_reducible show VO _ _ _ _ _ _ _);first|refine Z0 rfl ?_|refine Z2 ?_|refine Zg rfl ?_|refine Zq rfl rfl ?_|refine Zei rfl (fun _=>?_) (fun _=>?_))|refine Z0z rfl ?_|refine out [] rb pre _ _ _ ha hb (.inl rfl) rfl rfl rfl
  all_goals (exfalso;subst ha;simp at *)
 |cons y ra ih=>
  intro rb pre e ha hb h0 h1 h5
  refine Z12 (.put 0 (.str a) (.put 1 (.str b) (.put 5 (.int .i64 pre.length) .nil))) (Zo h0 (Zo h1 (Zo h5 Z08))) (Ze ?_)
  cases rb with
  |nil=>
   repeat' first|((with_reducible show V _ _ _ _ _ _);first|refine Z1 rfl ?_|refine Zb rfl rfl ?_|refine Z96 rfl rfl (fun _=>?_) (fun _=>?_)|refine V_D rfl ?_)|((with_reducible show VO _ _ _ _ _ _ _);first|refine Z0 rfl ?_|refine Z2 ?_|refine Zg rfl ?_|refine Zq rfl rfl ?_|refine Zei rfl (fun _=>?_) (fun _=>?_))|refine Z0z rfl ?_|refine out (y::ra) [] pre _ _ _ ha hb (.inr rfl) rfl rfl rfl
   all_goals (exfalso;subst hb;simp at *)
  |cons z rb=>
   have hy:a[(pre.length:Int).toNat]?=some y:=by subst ha;simp
   have hz:b[(pre.length:Int).toNat]?=some z:=by subst hb;simp
   by_cases hyz:y=z
   ·subst hyz
    have fin:∀(k:List Fr) (x:EX) (e':EC), Zp 200 k x=([.code (.loop Z34)], .normal)→e'.get 0=some (.str a)→e'.get 1=some (.str b)→e'.get 5=some (.int .i64 (IntKind.i64.wrap (pre.length+1)))→V T (PE (textP a b)) k x e' emptySt:=fun k x e' hadv g0 g1 g5=>Z6k hadv (by
     have hlt:pre.length<a.length:=by subst ha;simp
     have hw:IntKind.i64.wrap (pre.length+1)=((pre++[y]).length:Int):=by rw [Z00];simp;omega
     rw [hw] at g5
     exact ih rb (pre++[y]) e' (by rw [ha];simp) (by rw [hb];simp) g0 g1 g5)
    repeat' first|((with_reducible show V _ _ _ _ _ _);first|refine Z1 rfl ?_|refine Zb rfl rfl ?_|refine V_cNe rfl rfl ?_|refine Z96 rfl rfl (fun _=>?_) (fun _=>?_)|refine V_D rfl ?_)|((with_reducible show VO _ _ _ _ _ _ _);first|refine Z0 rfl ?_|refine Z2 ?_|refine Zg rfl ?_|refine Zq rfl rfl ?_|refine Zei rfl (fun _=>?_) (fun _=>?_))|((with_reducible show VD _ _ _ _ _ _ _);first|refine D_chr y rfl rfl (by omega) hy ?_|refine D_chr y rfl rfl (by omega) hz ?_|refine Z0z rfl ?_|refine Z55 ?_)|refine fin _ _ _ rfl rfl rfl rfl
    all_goals (exfalso;subst ha hb;simp at *;omega)
   ·have hne:((y.toNat:Int)=z.toNat)=False:=by
     refine eq_false fun h=>hyz ?_
     exact UInt8.toNat_inj.1 (by omega)
    have hcm:Zl1 a b=Zoa y.toNat z.toNat:=by rw [ha, hb, cmpS_pre];simp [Zl1, hyz]
    have h8:∀c:UInt8, IntKind.i64.wrap (c.toNat:Int)=c.toNat:=fun c=>by have:=c.toNat_lt;rw [Z00];omega
    have hnum:=Zhx (IntKind.i64.wrap y.toNat) (IntKind.i64.wrap z.toNat)
    rw [h8 y, h8 z, ←hcm] at hnum
    have hnum':T.R (.call Zb3 [.int .i64 (IntKind.i64.wrap y.toNat), .int .i64 (IntKind.i64.wrap z.toNat)] (.int .i64 (Zl1 a b))):=by rw [h8 y, h8 z];exact hnum
    repeat' first|((with_reducible show V _ _ _ _ _ _);first|refine Z1 rfl ?_|refine Zb rfl rfl ?_|refine Z96 rfl rfl (fun _=>?_) (fun _=>?_)|refine V_D rfl ?_)|((with_reducible show VO _ _ _ _ _ _ _);first|refine Z0 rfl ?_|refine Z2 ?_|refine Zg rfl ?_|refine Zq rfl rfl ?_|refine Zei rfl (fun _=>?_) (fun _=>?_))|((with_reducible show VD _ _ _ _ _ _ _);first|refine D_chr y rfl rfl (by omega) hy ?_|refine D_chr z rfl rfl (by omega) hz ?_|refine D_cA rfl rfl hnum' ?_|refine Z0z rfl ?_|refine Z55 ?_)|exact Z12 (.put 4 (.int .i64 (Zl1 a b)) .nil) (Zo rfl Z08) (Z4n rfl ⟨rfl, .inr ⟨rfl, rfl⟩⟩)
    all_goals clear ih out hnum hnum'
    all_goals (exfalso;subst ha hb;simp at *;omega)
theorem run_text2 (a b:List UInt8) (hla:a.length≤9223372036854775806):T.R (.call Zit [.str a, .str b] (.int .i64 (Zl1 a b))):=by
 have hnum:=Zhx (a.length:Int) (b.length:Int)
 refine Z7 rfl rfl ?_
 repeat' first|refine Z1 rfl ?_|refine Z0 rfl ?_|refine Z2 ?_
 refine Zol rfl (text_loop a b hla a b [] _ rfl rfl rfl rfl rfl) ?_
 rintro x e' st' ⟨rfl, ⟨rfl, rfl, hc⟩|⟨rfl, rfl⟩⟩
 ·repeat' first|refine Z1 rfl ?_|refine Z4 rfl rfl ?_|((with_reducible show VO _ _ _ _ _ _ _);first|refine Z6 rfl rfl hnum ?_|refine Z0 rfl ?_|refine Z2 ?_)
  rw [hc]
 ·repeat' first|refine Z4 rfl rfl ?_
  rfl
def orI (a b:Int):Int:=if a=0 then b else a
mutual
def Zjb:Val→Val→Int
 |.mk k n s l, .mk k' n' s' l'=>orI (Zoa k k') (orI (Zoa n n') (orI (Zl1 s s') (Z46 l l')))
def Z46:List Val→List Val→Int
 |[], []=>0
 |[], _::_ => -1
 |_::_, []=>1
 |a::x, b::y=>orI (Zjb a b) (Z46 x y)
end
theorem Zo9 {a b:Int}:Zoa a b=0↔a=b:=by
 unfold Zoa
 constructor
 ·intro h
  split at h
  ·cases h
  ·split at h
   ·cases h
   ·omega
 ·rintro rfl;simp
theorem Zma {a b:Int}:orI a b=0↔a=0∧b=0:=by
 unfold orI
 constructor
 ·intro h
  split at h
  ·exact ⟨by assumption, h⟩
  ·contradiction
 ·rintro ⟨rfl, rfl⟩;rfl
theorem cmpS_zero:∀ {s t:List UInt8}, Zl1 s t=0↔s=t
 |[], []=>by simp [Zl1]
 |[], _::_=>by simp [Zl1]
 |_::_, []=>by simp [Zl1]
 |a::s, b::t=>by
  unfold Zl1
  by_cases h:a=b
  ·subst h;rw [if_pos rfl];rw [cmpS_zero];simp
  ·rw [if_neg h, Zo9]
   constructor
   ·intro h2
    exact absurd (UInt8.toNat_inj.1 (by omega)) h
   ·intro h2;injection h2 with h2;exact absurd h2 h
mutual
theorem cmpV_zero:∀ {a b:Val}, Zjb a b=0↔a=b
 |.mk k n s l, .mk k' n' s' l'=>by
  unfold Zjb
  rw [Zma, Zma, Zma, Zo9, Zo9, cmpS_zero, Zq3]
  simp
theorem Zq3:∀ {a b:List Val}, Z46 a b=0↔a=b
 |[], []=>by simp [Z46]
 |[], _::_=>by simp [Z46]
 |_::_, []=>by simp [Z46]
 |a::x, b::y=>by
  unfold Z46
  rw [Zma, cmpV_zero, Zq3]
  simp
end
theorem cmpV_self (a:Val):Zjb a a=0:=cmpV_zero.2 rfl
theorem Zb8:∀(p x y:List Val), Z46 (p++x) (p++y)=Z46 x y
 |[], x, y=>rfl
 |a::p, x, y=>by
  show orI (Zjb a a) (Z46 (p++x) (p++y))=_
  rw [cmpV_self]
  exact Zb8 p x y
def LC (l:List Val) (p:PV):Prop:=(p=.nilSl∧l=[])∨∃xs full, p=.sl xs full∧l.length≤140737488355328∧xs.length=l.length∧∀(j:Nat) (v:Val) (cs:List PV), l[j]?=some v→xs[j]?=some cs→VC v cs
theorem VC.open {k n:Int} {s:List UInt8} {l:List Val} {cs:List PV} (h:VC (.mk k n s l) cs):Zr k∧Zr n∧s.length≤140737488355328∧∃p, cs=[.int .i64 k, .int .i64 n, .str s, p]∧LC l p:=by
 cases h with
 |nil k n s hk hn hs=>exact ⟨hk, hn, hs, _, rfl, .inl ⟨rfl, rfl⟩⟩
 |sl k n s l xs full hk hn hs hb hl h=>exact ⟨hk, hn, hs, _, rfl, .inr ⟨xs, full, rfl, hb, hl, h⟩⟩
theorem LC.vc {k n:Int} {s:List UInt8} {l:List Val} {p:PV} (h:LC l p) (hk:Zr k) (hn:Zr n) (hs:s.length≤140737488355328):VC (.mk k n s l) [.int .i64 k, .int .i64 n, .str s, p]:=by
 rcases h with ⟨rfl, rfl⟩|⟨xs, full, rfl, hb, hl, h⟩
 ·exact .nil _ _ _ hk hn hs
 ·exact .sl _ _ _ _ _ _ hk hn hs hb hl h
theorem VC.len4 {v:Val} {cs:List PV} (h:VC v cs):cs.length=4:=by cases h<;>rfl
theorem VC.one {v:Val} {cs:List PV} (h:VC v cs):cs.all PV.one=true:=by cases h<;>rfl
theorem LC.len {l:List Val} {p:PV} (h:LC l p):lenOf p=some l.length∧Zah p=false∧l.length≤140737488355328:=by
 rcases h with ⟨rfl, rfl⟩|⟨xs, full, rfl, hb, hl, h⟩
 ·exact ⟨rfl, rfl, by simp⟩
 ·exact ⟨by simp [lenOf, hl], rfl, hb⟩
theorem LC.pl {l:List Val} {p:PV} (h:LC l p):Pl p:=by
 have:=(LC.vc (k:=0) (n:=0) (s:=[]) h (by simp [Zr]) (by simp [Zr]) (by simp)).pl
 exact this p (by simp)
theorem LC.at {l:List Val} {p:PV} (h:LC l p) {j:Nat} {v:Val} (hv:l[j]?=some v):∃cs, At 4 p j cs∧VC v cs:=by
 rcases h with ⟨rfl, rfl⟩|⟨xs, full, rfl, hb, hl, h⟩
 ·simp at hv
 ·have hlt:j<xs.length:=by have:=(List.getElem?_eq_some_iff.1 hv).1;omega
  have hc:=h _ v _ hv (List.getElem?_eq_getElem hlt)
  exact ⟨_, ⟨by omega, hc.len4, xs, full, rfl, by simp [hlt]⟩, hc⟩
theorem VC.ind {M:Val→List PV→Prop} (h:∀(k n:Int) (s:List UInt8) (l:List Val) (p:PV), Zr k→Zr n→s.length≤140737488355328→LC l p→(∀(j:Nat) (v:Val) (cs:List PV), l[j]?=some v→At 4 p j cs→M v cs)→M (.mk k n s l) [.int .i64 k, .int .i64 n, .str s, p]) {v:Val} {cs:List PV} (hv:VC v cs):M v cs:=by
 induction hv with
 |nil k n s hk hn hs=>exact h k n s [] .nilSl hk hn hs (.inl ⟨rfl, rfl⟩) (fun j v cs hj=>by simp at hj)
 |sl k n s l xs full hk hn hs hb hl hc ih=>
  refine h k n s l _ hk hn hs (.inr ⟨xs, full, rfl, hb, hl, hc⟩) (fun j v cs hj ha=>?_)
  obtain ⟨_, _, ys, f, he, hc2⟩:=ha
  injection he with he1 he2
  subst he1
  exact ih j v cs hj (by simpa using hc2)
def stV (ca cb:List PV):St:=⟨0, 2, [(0, .var ca), (1, .var cb)]⟩
def cmpP (S:St) (la lb:List Val):EX→EC→St→Prop:=fun x e' st'=>st'=S∧((x=.exit 0∧e'=.put 2 (.ptr 0 0) (.put 3 (.ptr 1 0) .nil)∧Zoa la.length lb.length=Z46 la lb)∨(x=.ret∧e'=.put 4 (.int .i64 (Z46 la lb)) .nil∧Z46 la lb≠0))
theorem cmp_loop (k n k' n':Int) (s s':List UInt8) (la lb:List Val) (p q:PV) (hp:LC la p) (hq:LC lb q)
  (ih:∀(j:Nat) (v:Val) (cs:List PV), la[j]?=some v→At 4 p j cs→∀(w:Val) (ds:List PV), VC w ds→T.R (.call Z32 [.agg cs, .agg ds] (.int .i64 (Zjb v w)))):
  ∀(ra rb pre:List Val) (e:EC), la=pre++ra→lb=pre++rb→e.get 2=some (.ptr 0 0)→e.get 3=some (.ptr 1 0)→e.get 8=some (.int .i64 pre.length)→
  V T (PE (cmpP (stV [.int .i64 k, .int .i64 n, .str s, p] [.int .i64 k', .int .i64 n', .str s', q]) la lb)) [.code (.loop Z1x)] .normal e (stV [.int .i64 k, .int .i64 n, .str s, p] [.int .i64 k', .int .i64 n', .str s', q]):=by
 obtain ⟨lp1, lp2, lp3⟩:=hp.len
 obtain ⟨lq1, lq2, lq3⟩:=hq.len
 have out:∀(ra rb pre:List Val) (fr:List Fr) (x:EX) (e':EC), la=pre++ra→lb=pre++rb→ra=[]∨rb=[]→Zp 200 fr x=([], .exit 0)→e'.get 2=some (.ptr 0 0)→e'.get 3=some (.ptr 1 0)→V T (PE (cmpP (stV [.int .i64 k, .int .i64 n, .str s, p] [.int .i64 k', .int .i64 n', .str s', q]) la lb)) fr x e' (stV [.int .i64 k, .int .i64 n, .str s, p] [.int .i64 k', .int .i64 n', .str s', q]):=fun ra rb pre fr x e' ha hb hn hadv g0 g1=>
  Z12 (.put 2 (.ptr 0 0) (.put 3 (.ptr 1 0) .nil)) (Zo g0 (Zo g1 Z08)) (Z4n hadv ⟨rfl, .inl ⟨rfl, rfl, by
   rw [ha, hb, Zb8]
   rcases hn with rfl|rfl
   ·cases rb<;>simp [Z46, Zoa]<;>omega
   ·cases ra<;>simp [Z46, Zoa]<;>omega⟩⟩)
 intro ra
 induction ra with
 |nil=>
  intro rb pre e ha hb h0 h1 h5
  refine Z12 (.put 2 (.ptr 0 0) (.put 3 (.ptr 1 0) (.put 8 _ .nil))) (Zo h0 (Zo h1 (Zo h5 Z08))) (Ze ?_)
  repeat' first|((with_reducible show V _ _ _ _ _ _);first|refine Z1 rfl ?_|refine Zb rfl rfl ?_|refine Z96 rfl rfl (fun _=>?_) (fun _=>?_)|refine V_D rfl ?_)|((with_reducible show VO _ _ _ _ _ _ _);first|refine Z8 rfl lp1 lp2 ?_|refine Z8 rfl lq1 lq2 ?_|refine Z0 rfl ?_|refine Z2 ?_|refine Zg rfl ?_|refine Zq rfl rfl ?_|refine Zei rfl (fun _=>?_) (fun _=>?_))|refine Z0z rfl ?_|refine out [] rb pre _ _ _ ha hb (.inl rfl) rfl rfl rfl
  all_goals (exfalso;subst ha;simp at *)
 |cons y ra ihr=>
  intro rb pre e ha hb h0 h1 h5
  refine Z12 (.put 2 (.ptr 0 0) (.put 3 (.ptr 1 0) (.put 8 _ .nil))) (Zo h0 (Zo h1 (Zo h5 Z08))) (Ze ?_)
  cases rb with
  |nil=>
   repeat' first|((with_reducible show V _ _ _ _ _ _);first|refine Z1 rfl ?_|refine Zb rfl rfl ?_|refine Z96 rfl rfl (fun _=>?_) (fun _=>?_)|refine V_D rfl ?_)|((with_reducible show VO _ _ _ _ _ _ _);first|refine Z8 rfl lp1 lp2 ?_|refine Z8 rfl lq1 lq2 ?_|refine Z0 rfl ?_|refine Z2 ?_|refine Zg rfl ?_|refine Zq rfl rfl ?_|refine Zei rfl (fun _=>?_) (fun _=>?_))|refine Z0z rfl ?_|refine out (y::ra) [] pre _ _ _ ha hb (.inr rfl) rfl rfl rfl
   all_goals (exfalso;subst hb;simp at *)
  |cons z rb=>
   have hy:la[pre.length]?=some y:=by subst ha;simp
   have hz:lb[pre.length]?=some z:=by subst hb;simp
   obtain ⟨cy, ay, vy⟩:=hp.at hy
   obtain ⟨cz, az, vz⟩:=hq.at hz
   have ply:=vy.pl
   have plz:=vz.pl
   have hcall:=ih _ y cy hy ay z cz vz
   have hcm:Z46 la lb=orI (Zjb y z) (Z46 ra rb):=by rw [ha, hb, Zb8];rfl
   by_cases hyz:Zjb y z=0
   ·have hyz':=cmpV_zero.1 hyz
    subst hyz'
    have fin:∀(fr:List Fr) (x:EX) (e':EC), Zp 200 fr x=([.code (.loop Z1x)], .normal)→e'.get 2=some (.ptr 0 0)→e'.get 3=some (.ptr 1 0)→e'.get 8=some (.int .i64 (IntKind.i64.wrap (pre.length+1)))→V T (PE (cmpP (stV [.int .i64 k, .int .i64 n, .str s, p] [.int .i64 k', .int .i64 n', .str s', q]) la lb)) fr x e' (stV [.int .i64 k, .int .i64 n, .str s, p] [.int .i64 k', .int .i64 n', .str s', q]):=fun fr x e' hadv g0 g1 g5=>Z6k hadv (by
     have hlt:pre.length<la.length:=by subst ha;simp
     have hw:IntKind.i64.wrap (pre.length+1)=((pre++[y]).length:Int):=by rw [Z00];simp;omega
     rw [hw] at g5
     exact ihr rb (pre++[y]) e' (by rw [ha];simp) (by rw [hb];simp) g0 g1 g5)
    rw [hyz] at hcall
    repeat' first|((with_reducible show V _ _ _ _ _ _);first|refine Z1 rfl ?_|refine Zb rfl rfl ?_|refine Z96 rfl rfl (fun _=>?_) (fun _=>?_)|refine V_D rfl ?_)|((with_reducible show VO _ _ _ _ _ _ _);first|refine Z8 rfl lp1 lp2 ?_|refine Z8 rfl lq1 lq2 ?_|refine Z0 rfl ?_|refine Z2 ?_|refine Zg rfl ?_|refine Zq rfl rfl ?_|refine Zei rfl (fun _=>?_) (fun _=>?_))|((with_reducible show VD _ _ _ _ _ _ _);first|refine Zji rfl rfl ay ?_|refine Zji rfl rfl az ?_|refine Z75 rfl vy.len4 ?_|refine Z75 rfl vz.len4 ?_|refine D_cA rfl rfl hcall ?_|refine Z0z rfl ?_|refine Z55 ?_)|refine fin _ _ _ rfl rfl rfl rfl
    all_goals (exfalso;subst ha hb;simp at *;try omega)
   ·have ret:∀(fr:List Fr) (x:EX) (e':EC), Zp 200 fr x=([], .ret)→e'.get 4=some (.int .i64 (Zjb y z))→V T (PE (cmpP (stV [.int .i64 k, .int .i64 n, .str s, p] [.int .i64 k', .int .i64 n', .str s', q]) la lb)) fr x e' (stV [.int .i64 k, .int .i64 n, .str s, p] [.int .i64 k', .int .i64 n', .str s', q]):=fun fr x e' hadv g0=>by
     have he:Z46 la lb=Zjb y z:=by rw [hcm];exact if_neg hyz
     exact Z12 (.put 4 _ .nil) (Zo g0 Z08) (Z4n hadv ⟨rfl, .inr ⟨rfl, by rw [he], by rw [he];exact hyz⟩⟩)
    generalize hcr:Zjb y z=r at hcall ret hyz
    repeat' first|((with_reducible show V _ _ _ _ _ _);first|refine Z1 rfl ?_|refine Zb rfl rfl ?_|refine Z96 rfl rfl (fun _=>?_) (fun _=>?_)|refine V_D rfl ?_)|((with_reducible show VO _ _ _ _ _ _ _);first|refine Z8 rfl lp1 lp2 ?_|refine Z8 rfl lq1 lq2 ?_|refine Z0 rfl ?_|refine Z2 ?_|refine Zg rfl ?_|refine Zq rfl rfl ?_|refine Zei rfl (fun _=>?_) (fun _=>?_))|((with_reducible show VD _ _ _ _ _ _ _);first|refine Zji rfl rfl ay ?_|refine Zji rfl rfl az ?_|refine Z75 rfl vy.len4 ?_|refine Z75 rfl vz.len4 ?_|refine D_cA rfl rfl hcall ?_|refine Z0z rfl ?_|refine Z55 ?_)|refine ret _ _ _ rfl rfl
    all_goals clear ihr ret out hcall ih
    all_goals (exfalso;first|(subst ha hb;simp at *;omega)|(refine hyz ?_;simp_all;done))
theorem run_Compare2 {a:Val} {ca:List PV} (ha:VC a ca):∀(b:Val) (cb:List PV), VC b cb→T.R (.call Z32 [.agg ca, .agg cb] (.int .i64 (Zjb a b))):=by
 refine VC.ind (M:=fun a ca=>∀(b:Val) (cb:List PV), VC b cb→T.R (.call Z32 [.agg ca, .agg cb] (.int .i64 (Zjb a b)))) ?_ ha
 rintro k n s l p hk hn hs hp ih ⟨k', n', s', l'⟩ cb hb
 obtain ⟨hk', hn', hs', q, rfl, hq⟩:=hb.open
 have h1:=Zhx k k'
 have h2:=Zhx n n'
 have h3:=run_text2 s s' (by omega)
 have h4:=Zhx l.length l'.length
 have plp:=hp.pl
 have plq:=hq.pl
 obtain ⟨lp1, lp2, lp3⟩:=hp.len
 obtain ⟨lq1, lq2, lq3⟩:=hq.len
 have hl:=fun e h0 h1 h2=>cmp_loop k n k' n' s s' l l' p q hp hq ih l l' [] e rfl rfl h0 h1 h2
 unfold Zjb orI
 generalize Zoa k k'=r1 at h1 ⊢
 generalize Zoa n n'=r2 at h2 ⊢
 generalize Zl1 s s'=r3 at h3 ⊢
 refine Z7 rfl rfl ?_
 repeat' first|((with_reducible show V _ _ _ _ _ _);first|refine Zol rfl (hl _ rfl rfl rfl) ?_|refine Z1 rfl ?_|refine Z96 rfl rfl (fun _=>?_) (fun _=>?_)|refine Z4 rfl rfl ?_)|((with_reducible show VO _ _ _ _ _ _ _);first|refine Zc rfl ?_|refine Z6 rfl rfl h1 ?_|refine Z6 rfl rfl h2 ?_|refine Z6 rfl rfl h3 ?_|refine Z0 rfl ?_|refine Z2 ?_)
 all_goals simp only [Bool.not_eq_true', Bool.not_eq_false', decide_eq_true_eq, decide_eq_false_iff_not] at *
 ·rw [if_neg ‹_›]
 ·rw [if_pos ‹_›, if_neg ‹_›]
 ·rw [if_pos ‹_›, if_pos ‹_›, if_neg ‹_›]
 ·rw [if_pos ‹_›, if_pos ‹_›, if_pos ‹_›]
  rintro x e' st' ⟨rfl, ⟨rfl, rfl, hc⟩|⟨rfl, rfl, hc⟩⟩
  ·rw [hc] at h4
   repeat' first|refine Z1 rfl ?_|refine Z4 rfl rfl ?_|((with_reducible show VO _ _ _ _ _ _ _);first|refine Z8 rfl lp1 lp2 ?_|refine Z8 rfl lq1 lq2 ?_|refine Z6 rfl rfl h4 ?_|refine Z0 rfl ?_|refine Z2 ?_)
   all_goals rfl
  ·repeat' first|refine Z4 rfl rfl ?_
   all_goals rfl
theorem run_isNaN (a:Int):T.R (.call Znk [.int .i64 a] (.bool false)):=by
 refine Z7 rfl rfl ?_
 repeat' first|refine Z1 rfl ?_|refine Z4 rfl rfl ?_|refine Z0 rfl ?_|refine Z2 ?_
 all_goals simp
theorem run_isNaN64 (a:Int):T.R (.call Zk1 [.int .i64 a] (.bool false)):=by
 refine Z7 rfl rfl ?_
 repeat' first|refine Z1 rfl ?_|refine Z4 rfl rfl ?_|refine Z0 rfl ?_|refine Z2 ?_
 all_goals simp
theorem run_cmpInt (a b:Int):T.R (.call Zk2 [.int .i64 a, .int .i64 b] (.int .i64 (Zoa a b))):=by
 refine Z7 rfl rfl ?_
 repeat' first|((with_reducible show V _ _ _ _ _ _);first|refine Z1 rfl ?_|refine Zb rfl rfl ?_|refine Z96 rfl rfl (fun _=>?_) (fun _=>?_)|refine Z4 rfl rfl ?_)|((with_reducible show VO _ _ _ _ _ _ _);first|refine Z6 rfl rfl (run_isNaN _) ?_|refine Z0 rfl ?_|refine Z2 ?_)
 all_goals simp only [decide_eq_true_eq, decide_eq_false_iff_not] at *
 all_goals unfold Zoa
 all_goals simp [*]
theorem run_cmpInt64 (a b:Int):T.R (.call Zh1 [.int .i64 a, .int .i64 b] (.int .i64 (Zoa a b))):=by
 refine Z7 rfl rfl ?_
 repeat' first|((with_reducible show V _ _ _ _ _ _);first|refine Z1 rfl ?_|refine Zb rfl rfl ?_|refine Z96 rfl rfl (fun _=>?_) (fun _=>?_)|refine Z4 rfl rfl ?_)|((with_reducible show VO _ _ _ _ _ _ _);first|refine Z6 rfl rfl (run_isNaN64 _) ?_|refine Z0 rfl ?_|refine Z2 ?_)
 all_goals simp only [decide_eq_true_eq, decide_eq_false_iff_not] at *
 all_goals unfold Zoa
 all_goals simp [*]
theorem cmpS_lib:∀a b:List UInt8, Lib.compareBytes a b=Zl1 a b
 |[], []=>rfl
 |[], _::_=>rfl
 |_::_, []=>rfl
 |a::x, b::y=>by
  unfold Lib.compareBytes Zl1 Zoa
  rw [cmpS_lib x y]
  by_cases h:a=b
  ·subst h;simp
  ·rw [if_neg h]
   by_cases h2:a<b
   ·rw [if_pos h2, if_pos (by have:=UInt8.lt_iff_toNat_lt.1 h2;omega)]
   ·have h3:b<a:=by
     rcases UInt8.lt_or_lt_of_ne h with h3|h3
     ·exact absurd h3 h2
     ·exact h3
    rw [if_neg h2, if_pos h3, if_neg (by have:=UInt8.lt_iff_toNat_lt.1 h3;omega), if_pos (by have:=UInt8.lt_iff_toNat_lt.1 h3;omega)]
theorem Zjr (a b:List UInt8):T.R (.call Zbl [.str a, .str b] (.int .i64 (Zl1 a b))):=by
 have hx:T.ext Z0n [.str a, .str b] (.int .i64 (Zl1 a b)):=X_cmp ⟨rfl, a, b, rfl, by rw [cmpS_lib]⟩
 refine Z7 rfl rfl ?_
 repeat' first|refine Z1 rfl ?_|refine Z4 rfl rfl ?_|((with_reducible show VO _ _ _ _ _ _ _);first|refine O_extP rfl rfl (Z0a) rfl hx ?_|refine Z0 rfl ?_|refine Z2 ?_)
 all_goals rfl
theorem Zot (a b:List UInt8):T.R (.call Zjz [.str a, .str b] (.int .i64 (Zl1 a b))):=by
 have hx:=Zjr a b
 refine Z7 rfl rfl ?_
 repeat' first|refine Z1 rfl ?_|refine Z4 rfl rfl ?_|((with_reducible show VO _ _ _ _ _ _ _);first|refine Z6 rfl rfl hx ?_|refine Z0 rfl ?_|refine Z2 ?_)
 all_goals rfl
theorem run_Or4 (a b c d:Int) (f:Bool):T.R (.call n_cmp_Or_int [.sl [[.int .i64 a], [.int .i64 b], [.int .i64 c], [.int .i64 d]] f] (.int .i64 (orI a (orI b (orI c d))))):=by
 unfold orI
 refine Z7 rfl rfl ?_
 repeat' first|((with_reducible show V _ _ _ _ _ _);first|refine Za8 rfl (Ze ?_)|refine Z1 rfl ?_|refine Za rfl rfl ?_|refine Zb rfl rfl ?_|refine Z96 rfl rfl (fun _=>?_) (fun _=>?_)|refine Z4 rfl rfl ?_)|refine Z0 rfl ?_|refine Z2 ?_
 all_goals simp only [Bool.not_eq_true', Bool.not_eq_false', decide_eq_true_eq, decide_eq_false_iff_not] at *
 all_goals simp [*]
def cmpF (p q:PV) (la lb:List Val):EX→EC→St→Prop:=fun x e' st'=>(x=.exit 0∧st'=emptySt∧e'=.put 0 p (.put 1 q .nil)∧Z46 la lb=if la.length<lb.length then -1 else 0)∨(x=.ret∧e'=.put 6 (.int .i64 (Z46 la lb)) .nil)
theorem cmpf_loop (la lb:List Val) (p q:PV) (hp:LC la p) (hq:LC lb q)
  (ih:∀(j:Nat) (v:Val) (cs:List PV), la[j]?=some v→At 4 p j cs→∀(w:Val) (ds:List PV), VC w ds→T.R (.call Z0i [.agg cs, .agg ds] (.int .i64 (Zjb v w)))):
  ∀(ra rb pre:List Val) (e:EC), la=pre++ra→lb=pre++rb→e.get 0=some p→e.get 1=some q→e.get 2=some (.func Z0i [])→e.get 11=some p→e.get 12=some (.int .i64 la.length)→e.get 13=some (.int .i64 pre.length)→
  V T (PE (cmpF p q la lb)) [.code (.loop Z0b)] .normal e emptySt:=by
 obtain ⟨lp1, lp2, lp3⟩:=hp.len
 obtain ⟨lq1, lq2, lq3⟩:=hq.len
 intro ra
 induction ra with
 |nil=>
  intro rb pre e ha hb h0 h1 h2 h11 h12 h13
  refine Z12 (.put 0 p (.put 1 q (.put 2 (.func Z0i []) (.put 11 p (.put 12 (.int .i64 la.length) (.put 13 (.int .i64 pre.length) .nil)))))) (Zo h0 (Zo h1 (Zo h2 (Zo h11 (Zo h12 (Zo h13 Z08)))))) (Ze ?_)
  have hc:Z46 la lb=if la.length<lb.length then -1 else 0:=by
   rw [ha, hb, Zb8]
   cases rb with
   |nil=>simp [Z46]
   |cons z rb=>rw [if_pos (by simp)];rfl
  have out:∀(fr:List Fr) (x:EX) (e':EC), Zp 200 fr x=([], .exit 0)→e'.get 0=some p→e'.get 1=some q→V T (PE (cmpF p q la lb)) fr x e' emptySt:=fun fr x e' hadv g0 g1=>
   Z12 (.put 0 p (.put 1 q .nil)) (Zo g0 (Zo g1 Z08)) (Z4n hadv (.inl ⟨rfl, rfl, rfl, hc⟩))
  repeat' first|refine Z1 rfl ?_|refine Z96 rfl rfl (fun _=>?_) (fun _=>?_)|refine Z0 rfl ?_|refine Z2 ?_|refine out _ _ _ rfl rfl rfl
  all_goals (exfalso;subst ha;simp at *)
 |cons y ra ihr=>
  intro rb pre e ha hb h0 h1 h2 h11 h12 h13
  refine Z12 (.put 0 p (.put 1 q (.put 2 (.func Z0i []) (.put 11 p (.put 12 (.int .i64 la.length) (.put 13 (.int .i64 pre.length) .nil)))))) (Zo h0 (Zo h1 (Zo h2 (Zo h11 (Zo h12 (Zo h13 Z08)))))) (Ze ?_)
  have hy:la[pre.length]?=some y:=by subst ha;simp
  obtain ⟨cy, ay, vy⟩:=hp.at hy
  have hih:=ih _ y cy hy ay
  obtain ⟨ky, ny, sy, ly⟩:=y
  obtain ⟨hk1, hn1, hs1, py, rfl, hpy⟩:=vy.open
  have ply:=hpy.pl
  have ret:∀(fr:List Fr) (x:EX) (e':EC) (st':St) (r:Int), Zp 200 fr x=([], .ret)→e'.get 6=some (.int .i64 r)→r=Z46 la lb→V T (PE (cmpF p q la lb)) fr x e' st':=fun fr x e' st' r hadv g0 hr=>by
   subst hr
   exact Z12 (.put 6 _ .nil) (Zo g0 Z08) (Z4n hadv (.inr ⟨rfl, rfl⟩))
  cases rb with
  |nil=>
   have hc:1=Z46 la lb:=by rw [ha, hb, Zb8];rfl
   repeat' first|refine Z1 rfl ?_|refine Z96 rfl rfl (fun _=>?_) (fun _=>?_)|((with_reducible show VO _ _ _ _ _ _ _);first|refine Zc rfl ?_|refine Z83 rfl rfl vy.one rfl rfl rfl ?_|refine Zn rfl rfl ay ?_|refine Z8 rfl lq1 lq2 ?_|refine Z0 rfl ?_|refine Z2 ?_)|refine ret _ _ _ _ 1 rfl rfl hc
   all_goals (exfalso;clear ret hih ihr ih hc;subst ha hb;simp at *;try omega)
  |cons z rb=>
   have hz:lb[pre.length]?=some z:=by subst hb;simp
   obtain ⟨cz, az, vz⟩:=hq.at hz
   have hcall:=hih z cz vz
   have hcm:Z46 la lb=orI (Zjb (.mk ky ny sy ly) z) (Z46 ra rb):=by rw [ha, hb, Zb8];rfl
   have hz0:Zjb (.mk ky ny sy ly) z=0→(.mk ky ny sy ly)=z:=cmpV_zero.1
   generalize hr:Zjb (.mk ky ny sy ly) z=r at hcall hcm hz0
   obtain ⟨kz, nz, sz, lz⟩:=z
   obtain ⟨hk2, hn2, hs2, pz, rfl, hpz⟩:=vz.open
   have plz:=hpz.pl
   by_cases hyz:r=0
   ·have hyz':=hz0 hyz
    have fin:∀(fr:List Fr) (x:EX) (e':EC) (st':St), Zp 200 fr x=([.code (.loop Z0b)], .normal)→e'.get 0=some p→e'.get 1=some q→e'.get 2=some (.func Z0i [])→e'.get 11=some p→e'.get 12=some (.int .i64 la.length)→e'.get 13=some (.int .i64 (IntKind.i64.wrap (pre.length+1)))→st'.base=0→V T (PE (cmpF p q la lb)) fr x e' st':=fun fr x e' st' hadv g0 g1 g2 g11 g12 g13 hb0=>Z6k hadv (by
     have hlt:pre.length<la.length:=by subst ha;simp
     have hw:IntKind.i64.wrap (pre.length+1)=((pre++[Val.mk ky ny sy ly]).length:Int):=by rw [Z00];simp;omega
     rw [hw] at g13
     have:=Zoj (st:=st') [(0, p), (1, q), (2, .func Z0i []), (11, p), (12, .int .i64 la.length), (13, .int .i64 ((pre++[Val.mk ky ny sy ly]).length:Int))]
      (Zkf g0 hp.pl.bel (Zkf g1 hq.pl.bel (Zkf g2 (.func _ _ (by simp)) (Zkf g11 hp.pl.bel (Zkf g12 (.int _ _) (Zkf g13 (.int _ _) fg_nil)))))) (by omega)
      (T:=T) (Q:=PE (cmpF p q la lb)) (c:=.loop Z0b) (k:=[])
     rw [hb0] at this
     exact this (ihr rb (pre++[Val.mk ky ny sy ly]) _ (by rw [ha];simp) (by rw [hb, hyz'];simp) rfl rfl rfl rfl rfl rfl))
    subst hyz
    repeat' first|((with_reducible show V _ _ _ _ _ _);first|refine Z1 rfl ?_|refine Zb rfl rfl ?_|refine Z96 rfl rfl (fun _=>?_) (fun _=>?_))|((with_reducible show VO _ _ _ _ _ _ _);first|refine Zc rfl ?_|refine Z83 rfl rfl vy.one rfl rfl rfl ?_|refine Zn rfl rfl ay ?_|refine Zn rfl rfl az ?_|refine Z83 rfl rfl vz.one rfl rfl rfl ?_|refine Z8 rfl lq1 lq2 ?_|refine Z6 rfl rfl hcall ?_|refine Z0 rfl ?_|refine Z2 ?_)|refine fin _ _ _ _ rfl rfl rfl rfl rfl rfl rfl rfl
    all_goals (exfalso;clear ret hih ihr ih fin;subst ha hb;simp at *;try omega)
   ·have hc:r=Z46 la lb:=by rw [hcm];exact (if_neg hyz).symm
    repeat' first|refine Z1 rfl ?_|refine Z96 rfl rfl (fun _=>?_) (fun _=>?_)|((with_reducible show VO _ _ _ _ _ _ _);first|refine Zc rfl ?_|refine Z83 rfl rfl vy.one rfl rfl rfl ?_|refine Zn rfl rfl ay ?_|refine Zn rfl rfl az ?_|refine Z83 rfl rfl vz.one rfl rfl rfl ?_|refine Z8 rfl lq1 lq2 ?_|refine Z6 rfl rfl hcall ?_|refine Z0 rfl ?_|refine Z2 ?_)|refine ret _ _ _ _ r rfl rfl hc
    all_goals (exfalso;clear ret hih ihr ih hc hcall)
    all_goals first|(subst ha hb;simp at *;omega)|(refine hyz ?_;simp_all;done)
theorem Zn0 (la lb:List Val) (p q:PV) (hp:LC la p) (hq:LC lb q)
  (ih:∀(j:Nat) (v:Val) (cs:List PV), la[j]?=some v→At 4 p j cs→∀(w:Val) (ds:List PV), VC w ds→T.R (.call Z0i [.agg cs, .agg ds] (.int .i64 (Zjb v w)))):
  T.R (.call Z63 [p, q, .func Z0i []] (.int .i64 (Z46 la lb))):=by
 obtain ⟨lp1, lp2, lp3⟩:=hp.len
 obtain ⟨lq1, lq2, lq3⟩:=hq.len
 have hl:=fun e h0 h1 h2 h3 h4 h5=>cmpf_loop la lb p q hp hq ih la lb [] e rfl rfl h0 h1 h2 h3 h4 h5
 generalize hc:Z46 la lb=r at hl ⊢
 refine Z7 rfl rfl ?_
 repeat' first|refine Zol rfl (hl _ rfl rfl rfl rfl rfl rfl) ?_|refine Z1 rfl ?_|((with_reducible show VO _ _ _ _ _ _ _);first|refine Z8 rfl lp1 lp2 ?_|refine Z0 rfl ?_|refine Z2 ?_)
 rintro x e' st' (⟨rfl, rfl, rfl, h⟩|⟨rfl, rfl⟩)
 ·rw [hc] at h
  repeat' first|((with_reducible show V _ _ _ _ _ _);first|refine Z1 rfl ?_|refine Z96 rfl rfl (fun _=>?_) (fun _=>?_)|refine Z4 rfl rfl ?_)|((with_reducible show VO _ _ _ _ _ _ _);first|refine Z8 rfl lp1 lp2 ?_|refine Z8 rfl lq1 lq2 ?_|refine Z0 rfl ?_|refine Z2 ?_)
  all_goals simp only [decide_eq_true_eq, decide_eq_false_iff_not] at *
  ·rw [h, if_pos (by omega)]
  ·rw [h, if_neg (by omega)]
 ·rw [hc]
  repeat' first|refine Z4 rfl rfl ?_
  all_goals rfl
theorem Zn1 {a:Val} {ca:List PV} (ha:VC a ca):∀(b:Val) (cb:List PV), VC b cb→T.R (.call Z0i [.agg ca, .agg cb] (.int .i64 (Zjb a b))):=by
 refine VC.ind (M:=fun a ca=>∀(b:Val) (cb:List PV), VC b cb→T.R (.call Z0i [.agg ca, .agg cb] (.int .i64 (Zjb a b)))) ?_ ha
 rintro k n s l p hk hn hs hp ih ⟨k', n', s', l'⟩ cb hb
 obtain ⟨hk', hn', hs', q, rfl, hq⟩:=hb.open
 have h1:=run_cmpInt k k'
 have h2:=run_cmpInt64 n n'
 have h3:=Zot s s'
 have h4:=Zn0 l l' p q hp hq ih
 have plp:=hp.pl
 have plq:=hq.pl
 have h5:=run_Or4 (Zoa k k') (Zoa n n') (Zl1 s s') (Z46 l l') true
 refine Z7 rfl rfl ?_
 repeat' first|((with_reducible show V _ _ _ _ _ _);first|refine Z1 rfl ?_|refine Z4 rfl rfl ?_|refine V_D rfl ?_)|((with_reducible show VO _ _ _ _ _ _ _);first|refine Zc rfl ?_|refine Z0 rfl ?_|refine Z2 ?_)|((with_reducible show VD _ _ _ _ _ _ _);first|refine D_cA rfl rfl h1 ?_|refine D_cA rfl rfl h2 ?_|refine D_cA rfl rfl h3 ?_|refine D_cA rfl rfl h4 ?_|refine D_cA rfl rfl h5 ?_|refine Z0z rfl ?_|refine Z55 ?_)
 all_goals (unfold Zjb;rfl)
def Z1r:List Val→Bool
 |a::_::c::r=>decide (Zjb a c<0)&&Z1r (c::r)
 |_=>true
def Zl:Nat→Val→Bool
 |0, _=>false
 |f+1, .mk k n s l=>
  if k=1 then decide (s=[])&&decide ((l.length:Int)=0)
  else if k=3 then decide (s=[])&&decide ((l.length:Int)=0)&&(decide (n=0)||decide (n=1))
  else if k=6 then decide (s=[])&&decide ((l.length:Int)=0)&&decide (1≤n)&&decide (n≤281474976710656)
  else if k=7 then decide (s=[])&&decide ((l.length:Int)=0)&&decide (1≤n)&&decide (n≤281474976710656)
  else if k=2 then decide (n=0)&&decide ((l.length:Int)=0)&&decide ((s.length:Int)≤128)
  else if k=4 then decide (n=0)&&decide (s=[])&&decide ((l.length:Int)≤256)&&l.all (Zl f)
  else if k=5 then decide (n=0)&&decide (s=[])&&decide ((l.length:Int)≤512)&&decide ((l.length:Int).tmod 2=0)&&l.all (Zl f)&&Z1r l
  else false
set_option maxHeartbeats 4000000 in
theorem run_may2_step (f:Nat) (d:Int) (hd:d+f=7∧0≤d) (k n:Int) (s:List UInt8) (l:List Val) (p:PV) (hp:LC l p)
  (hall:T.R (.call Zb4 [p, .int .i64 d] (.bool (l.all (Zl f))))) (hri:T.R (.call Z8z [p] (.bool (Z1r l)))):
  T.R (.call Z37 [.agg [.int .i64 k, .int .i64 n, .str s, p], .int .i64 d] (.bool (Zl (f+1) (.mk k n s l)))):=by
 obtain ⟨lp1, lp2, lp3⟩:=hp.len
 have plp:=hp.pl
 have hd8:decide (8≤d)=false:=decide_eq_false (by omega)
 by_cases h1:k=1
 ·subst h1
  have hm:Zl (f+1) (.mk 1 n s l)=(decide (s=[])&&decide ((l.length:Int)=0)):=by simp [Zl]
  rw [hm]
  generalize l.all (Zl f)=a at hall ⊢
  generalize Z1r l=r at hri ⊢
  refine Z7 rfl rfl ?_
  repeat' first|((with_reducible show V _ _ _ _ _ _);first|refine Z9l hd8 rfl rfl ?_|refine Z1 rfl ?_|refine Za rfl rfl ?_|refine Z4 rfl rfl ?_)|((with_reducible show VO _ _ _ _ _ _ _);first|refine Zc rfl ?_|refine Z8 rfl lp1 lp2 ?_|refine Z0 rfl ?_|refine Z2 ?_|refine Zg rfl ?_|refine Zq rfl rfl ?_|refine Zei rfl (fun _=>?_) (fun _=>?_))
  all_goals (clear hall hri hm;simp only [*, Bool.true_and, Bool.and_true, Bool.false_and, Bool.and_false, Bool.true_or, Bool.or_true, Bool.false_or, Bool.or_false, Bool.not_true, Bool.not_false])
 by_cases h3:k=3
 ·subst h3
  have hm:Zl (f+1) (.mk 3 n s l)=(decide (s=[])&&decide ((l.length:Int)=0)&&(decide (n=0)||decide (n=1))):=by simp [Zl]
  rw [hm]
  generalize l.all (Zl f)=a at hall ⊢
  generalize Z1r l=r at hri ⊢
  refine Z7 rfl rfl ?_
  repeat' first|((with_reducible show V _ _ _ _ _ _);first|refine Z9l hd8 rfl rfl ?_|refine Z1 rfl ?_|refine Za rfl rfl ?_|refine Zb rfl rfl ?_|refine Z4 rfl rfl ?_)|((with_reducible show VO _ _ _ _ _ _ _);first|refine Zc rfl ?_|refine Z8 rfl lp1 lp2 ?_|refine Z0 rfl ?_|refine Z2 ?_|refine Zg rfl ?_|refine O_gU' rfl ?_|refine Zq rfl rfl ?_|refine Zei rfl (fun _=>?_) (fun _=>?_))
  all_goals (clear hall hri hm;simp only [*, Bool.true_and, Bool.and_true, Bool.false_and, Bool.and_false, Bool.true_or, Bool.or_true, Bool.false_or, Bool.or_false, Bool.not_true, Bool.not_false])
 by_cases h6:k=6
 ·subst h6
  have hm:Zl (f+1) (.mk 6 n s l)=(decide (s=[])&&decide ((l.length:Int)=0)&&decide (1≤n)&&decide (n≤281474976710656)):=by simp [Zl]
  rw [hm]
  generalize l.all (Zl f)=a at hall ⊢
  generalize Z1r l=r at hri ⊢
  refine Z7 rfl rfl ?_
  repeat' first|((with_reducible show V _ _ _ _ _ _);first|refine Z9l hd8 rfl rfl ?_|refine Z1 rfl ?_|refine Za rfl rfl ?_|refine Zb rfl rfl ?_|refine Z4 rfl rfl ?_)|((with_reducible show VO _ _ _ _ _ _ _);first|refine Zc rfl ?_|refine Z8 rfl lp1 lp2 ?_|refine Z0 rfl ?_|refine Z2 ?_|refine Zg rfl ?_|refine Zq rfl rfl ?_|refine Zei rfl (fun _=>?_) (fun _=>?_))
  all_goals (clear hall hri hm;simp only [*, Bool.true_and, Bool.and_true, Bool.false_and, Bool.and_false, Bool.true_or, Bool.or_true, Bool.false_or, Bool.or_false, Bool.not_true, Bool.not_false])
 by_cases h7:k=7
 ·subst h7
  have hm:Zl (f+1) (.mk 7 n s l)=(decide (s=[])&&decide ((l.length:Int)=0)&&decide (1≤n)&&decide (n≤281474976710656)):=by simp [Zl]
  rw [hm]
  generalize l.all (Zl f)=a at hall ⊢
  generalize Z1r l=r at hri ⊢
  refine Z7 rfl rfl ?_
  repeat' first|((with_reducible show V _ _ _ _ _ _);first|refine Z9l hd8 rfl rfl ?_|refine Z1 rfl ?_|refine Za rfl rfl ?_|refine Zb rfl rfl ?_|refine Z4 rfl rfl ?_)|((with_reducible show VO _ _ _ _ _ _ _);first|refine Zc rfl ?_|refine Z8 rfl lp1 lp2 ?_|refine Z0 rfl ?_|refine Z2 ?_|refine Zg rfl ?_|refine Zq rfl rfl ?_|refine Zei rfl (fun _=>?_) (fun _=>?_))
  all_goals (clear hall hri hm;simp only [*, Bool.true_and, Bool.and_true, Bool.false_and, Bool.and_false, Bool.true_or, Bool.or_true, Bool.false_or, Bool.or_false, Bool.not_true, Bool.not_false])
 by_cases h2:k=2
 ·subst h2
  have hm:Zl (f+1) (.mk 2 n s l)=(decide (n=0)&&decide ((l.length:Int)=0)&&decide ((s.length:Int)≤128)):=by simp [Zl]
  rw [hm]
  generalize l.all (Zl f)=a at hall ⊢
  generalize Z1r l=r at hri ⊢
  refine Z7 rfl rfl ?_
  repeat' first|((with_reducible show V _ _ _ _ _ _);first|refine Z9l hd8 rfl rfl ?_|refine Z1 rfl ?_|refine Za rfl rfl ?_|refine Zb rfl rfl ?_|refine Z4 rfl rfl ?_)|((with_reducible show VO _ _ _ _ _ _ _);first|refine Zc rfl ?_|refine Z8 rfl lp1 lp2 ?_|refine Z0 rfl ?_|refine Z2 ?_|refine Zg rfl ?_|refine Zq rfl rfl ?_|refine Zei rfl (fun _=>?_) (fun _=>?_))
  all_goals (clear hall hri hm;simp only [*, Bool.true_and, Bool.and_true, Bool.false_and, Bool.and_false, Bool.true_or, Bool.or_true, Bool.false_or, Bool.or_false, Bool.not_true, Bool.not_false])
 by_cases h4:k=4
 ·subst h4
  have hm:Zl (f+1) (.mk 4 n s l)=(decide (n=0)&&decide (s=[])&&decide ((l.length:Int)≤256)&&l.all (Zl f)):=by simp [Zl]
  rw [hm]
  generalize l.all (Zl f)=a at hall ⊢
  generalize Z1r l=r at hri ⊢
  refine Z7 rfl rfl ?_
  repeat' first|((with_reducible show V _ _ _ _ _ _);first|refine Z9l hd8 rfl rfl ?_|refine Z1 rfl ?_|refine Za rfl rfl ?_|refine Zb rfl rfl ?_|refine Z4 rfl rfl ?_)|((with_reducible show VO _ _ _ _ _ _ _);first|refine Zc rfl ?_|refine Z8 rfl lp1 lp2 ?_|refine Z6 rfl rfl hall ?_|refine Z0 rfl ?_|refine Z2 ?_|refine Zg rfl ?_|refine Zq rfl rfl ?_|refine Zei rfl (fun _=>?_) (fun _=>?_))
  all_goals (clear hall hri hm;simp only [*, Bool.true_and, Bool.and_true, Bool.false_and, Bool.and_false, Bool.true_or, Bool.or_true, Bool.false_or, Bool.or_false, Bool.not_true, Bool.not_false])
 by_cases h5:k=5
 ·subst h5
  have hm:Zl (f+1) (.mk 5 n s l)=(decide (n=0)&&decide (s=[])&&decide ((l.length:Int)≤512)&&decide ((l.length:Int).tmod 2=0)&&l.all (Zl f)&&Z1r l):=by simp [Zl]
  rw [hm]
  generalize l.all (Zl f)=a at hall ⊢
  generalize Z1r l=r at hri ⊢
  refine Z7 rfl rfl ?_
  repeat' first|((with_reducible show V _ _ _ _ _ _);first|refine Z9l hd8 rfl rfl ?_|refine Z1 rfl ?_|refine Za rfl rfl ?_|refine Zb rfl rfl ?_|refine Z4 rfl rfl ?_)|((with_reducible show VO _ _ _ _ _ _ _);first|refine Zc rfl ?_|refine Z8 rfl lp1 lp2 ?_|refine O_rem rfl rfl rfl ?_|refine Z6 rfl rfl hall ?_|refine Z6 rfl rfl hri ?_|refine Z0 rfl ?_|refine Z2 ?_|refine Zg rfl ?_|refine Zq rfl rfl ?_|refine Zei rfl (fun _=>?_) (fun _=>?_))
  all_goals (clear hall hri hm;simp only [*, Bool.true_and, Bool.and_true, Bool.false_and, Bool.and_false, Bool.true_or, Bool.or_true, Bool.false_or, Bool.or_false, Bool.not_true, Bool.not_false])
 ·have hm:Zl (f+1) (.mk k n s l)=false:=by simp [Zl, *]
  rw [hm]
  refine Z7 rfl rfl ?_
  repeat' first|((with_reducible show V _ _ _ _ _ _);first|refine Z9l hd8 rfl rfl ?_|refine Z9l (decide_eq_false h1) rfl rfl ?_|refine Z9l (decide_eq_false h3) rfl rfl ?_|refine Z9l (decide_eq_false h6) rfl rfl ?_|refine Z9l (decide_eq_false h7) rfl rfl ?_|refine Z9l (decide_eq_false h2) rfl rfl ?_|refine Z9l (decide_eq_false h4) rfl rfl ?_|refine Z9l (decide_eq_false h5) rfl rfl ?_|refine Z1 rfl ?_|refine Z4 rfl rfl ?_)|((with_reducible show VO _ _ _ _ _ _ _);first|refine Zc rfl ?_|refine Z0 rfl ?_|refine Z2 ?_)
  all_goals rfl
def stM (cs:List PV) (d:Int):St:=⟨0, 2, [(0, .var cs), (1, .var [.int .i64 d])]⟩
def riseP (S:St) (l:List Val):EX→EC→St→Prop:=fun x e' st'=>st'=S∧((x=.exit 1∧e'=.put 2 (.ptr 0 0) (.put 3 (.ptr 1 0) .nil)∧Z1r l=true)∨(x=.ret∧e'=.put 4 (.bool false) .nil∧Z1r l=false))
theorem rise_loop (k n d:Int) (s:List UInt8) (l:List Val) (p:PV) (hp:LC l p):
  ∀(m:Nat) (ra pre:List Val) (e:EC), ra.length≤m→l=pre++ra→Z1r l=Z1r ra→(ra≠[]∨l=[])→e.get 2=some (.ptr 0 0)→e.get 3=some (.ptr 1 0)→e.get 6=some (.int .i64 (pre.length+2))→
  V T (PE (riseP (stM [.int .i64 k, .int .i64 n, .str s, p] d) l)) [.code (.loop Zae)] .normal e (stM [.int .i64 k, .int .i64 n, .str s, p] d):=by
 obtain ⟨lp1, lp2, lp3⟩:=hp.len
 intro m
 induction m with
 |zero=>
  intro ra pre e hm hl hr hne h2 h3 h6
  have hra:ra=[]:=by cases ra with
   |nil=>rfl
   |cons y ra=>simp at hm
  have hl0:l=[]:=by
   rcases hne with h|h
   ·exact absurd hra h
   ·exact h
  have hpre:pre=[]:=by rw [hl0] at hl;simp at hl;exact hl.1
  have out:∀(fr:List Fr) (x:EX) (e':EC), Zp 200 fr x=([], .exit 1)→e'.get 2=some (.ptr 0 0)→e'.get 3=some (.ptr 1 0)→V T (PE (riseP (stM [.int .i64 k, .int .i64 n, .str s, p] d) l)) fr x e' (stM [.int .i64 k, .int .i64 n, .str s, p] d):=fun fr x e' hadv g2 g3=>
   Z12 (.put 2 _ (.put 3 _ .nil)) (Zo g2 (Zo g3 Z08)) (Z4n hadv ⟨rfl, .inl ⟨rfl, rfl, by rw [hl0];rfl⟩⟩)
  refine Z12 (.put 2 _ (.put 3 _ (.put 6 _ .nil))) (Zo h2 (Zo h3 (Zo h6 Z08))) (Ze ?_)
  repeat' first|((with_reducible show V _ _ _ _ _ _);first|refine Z1 rfl ?_|refine Z96 rfl rfl (fun _=>?_) (fun _=>?_)|refine V_D rfl ?_)|((with_reducible show VO _ _ _ _ _ _ _);first|refine Z8 rfl lp1 lp2 ?_|refine Z0 rfl ?_|refine Z2 ?_)|refine Z0z rfl ?_|refine out _ _ _ rfl rfl rfl
  all_goals (exfalso;clear out;subst hl0 hpre;simp at *)
 |succ m ihr=>
  intro ra pre e hm hl hr hne h2 h3 h6
  match ra, hm, hl, hr, hne with
  |[], hm, hl, hr, hne=>exact ihr [] pre e (by simp) hl hr hne h2 h3 h6
  |[y], hm, hl, hr, hne=>
   have out:∀(fr:List Fr) (x:EX) (e':EC), Zp 200 fr x=([], .exit 1)→e'.get 2=some (.ptr 0 0)→e'.get 3=some (.ptr 1 0)→V T (PE (riseP (stM [.int .i64 k, .int .i64 n, .str s, p] d) l)) fr x e' (stM [.int .i64 k, .int .i64 n, .str s, p] d):=fun fr x e' hadv g2 g3=>
    Z12 (.put 2 _ (.put 3 _ .nil)) (Zo g2 (Zo g3 Z08)) (Z4n hadv ⟨rfl, .inl ⟨rfl, rfl, by rw [hr];rfl⟩⟩)
   refine Z12 (.put 2 _ (.put 3 _ (.put 6 _ .nil))) (Zo h2 (Zo h3 (Zo h6 Z08))) (Ze ?_)
   repeat' first|((with_reducible show V _ _ _ _ _ _);first|refine Z1 rfl ?_|refine Z96 rfl rfl (fun _=>?_) (fun _=>?_)|refine V_D rfl ?_)|((with_reducible show VO _ _ _ _ _ _ _);first|refine Z8 rfl lp1 lp2 ?_|refine Z0 rfl ?_|refine Z2 ?_)|refine Z0z rfl ?_|refine out _ _ _ rfl rfl rfl
   all_goals (exfalso;clear out;subst hl;simp at *;try omega)
  |[y, z], hm, hl, hr, hne=>
   have out:∀(fr:List Fr) (x:EX) (e':EC), Zp 200 fr x=([], .exit 1)→e'.get 2=some (.ptr 0 0)→e'.get 3=some (.ptr 1 0)→V T (PE (riseP (stM [.int .i64 k, .int .i64 n, .str s, p] d) l)) fr x e' (stM [.int .i64 k, .int .i64 n, .str s, p] d):=fun fr x e' hadv g2 g3=>
    Z12 (.put 2 _ (.put 3 _ .nil)) (Zo g2 (Zo g3 Z08)) (Z4n hadv ⟨rfl, .inl ⟨rfl, rfl, by rw [hr];rfl⟩⟩)
   refine Z12 (.put 2 _ (.put 3 _ (.put 6 _ .nil))) (Zo h2 (Zo h3 (Zo h6 Z08))) (Ze ?_)
   repeat' first|((with_reducible show V _ _ _ _ _ _);first|refine Z1 rfl ?_|refine Z96 rfl rfl (fun _=>?_) (fun _=>?_)|refine V_D rfl ?_)|((with_reducible show VO _ _ _ _ _ _ _);first|refine Z8 rfl lp1 lp2 ?_|refine Z0 rfl ?_|refine Z2 ?_)|refine Z0z rfl ?_|refine out _ _ _ rfl rfl rfl
   all_goals (exfalso;clear out;subst hl;simp at *)
  |y::z::w::ra, hm, hl, hr, hne=>
   have hlt:pre.length+2<l.length:=by subst hl;simp
   have hy:l[pre.length]?=some y:=by subst hl;simp
   have hw:l[pre.length+2]?=some w:=by subst hl;simp
   obtain ⟨cy, ay, vy⟩:=hp.at hy
   obtain ⟨cw, aw, vw⟩:=hp.at hw
   have ply:=vy.pl
   have plw:=vw.pl
   have hcall:=Zn1 vy w cw vw
   have ay':At 4 p (IntKind.i64.wrap ((pre.length:Int)+2-2)) cy:=by
    have:IntKind.i64.wrap ((pre.length:Int)+2-2)=(pre.length:Int):=by rw [Z00];omega
    rw [this];exact ay
   have aw':At 4 p ((pre.length:Int)+2) cw:=by
    have:((pre.length+2:Nat):Int)=(pre.length:Int)+2:=by omega
    rw [←this];exact aw
   have hr':Z1r l=(decide (Zjb y w<0)&&Z1r (w::ra)):=by rw [hr];rfl
   generalize Zjb y w=r at hcall hr'
   by_cases hrr:r<0
   ·have fin:∀(fr:List Fr) (x:EX) (e':EC), Zp 200 fr x=([.code (.loop Zae)], .normal)→e'.get 2=some (.ptr 0 0)→e'.get 3=some (.ptr 1 0)→e'.get 6=some (.int .i64 (IntKind.i64.wrap ((pre.length:Int)+2+2)))→V T (PE (riseP (stM [.int .i64 k, .int .i64 n, .str s, p] d) l)) fr x e' (stM [.int .i64 k, .int .i64 n, .str s, p] d):=fun fr x e' hadv g2 g3 g6=>Z6k hadv (by
     have hw:IntKind.i64.wrap ((pre.length:Int)+2+2)=((pre++[y, z]).length:Int)+2:=by rw [Z00];simp;omega
     rw [hw] at g6
     exact ihr (w::ra) (pre++[y, z]) e' (by simp at hm ⊢;omega) (by rw [hl];simp) (by rw [hr', decide_eq_true hrr];rfl) (.inl (by simp)) g2 g3 g6)
    refine Z12 (.put 2 _ (.put 3 _ (.put 6 _ .nil))) (Zo h2 (Zo h3 (Zo h6 Z08))) (Ze ?_)
    repeat' first|((with_reducible show V _ _ _ _ _ _);first|refine Z1 rfl ?_|refine Z96 rfl rfl (fun _=>?_) (fun _=>?_)|refine V_D rfl ?_)|((with_reducible show VO _ _ _ _ _ _ _);first|refine Z8 rfl lp1 lp2 ?_|refine Z0 rfl ?_|refine Z2 ?_)|((with_reducible show VD _ _ _ _ _ _ _);first|refine Zji rfl rfl ay' ?_|refine Zji rfl rfl aw' ?_|refine Z75 rfl vy.len4 ?_|refine Z75 rfl vw.len4 ?_|refine D_cA rfl rfl hcall ?_|refine Z0z rfl ?_|refine Z55 ?_)|refine fin _ _ _ rfl rfl rfl rfl
    all_goals (exfalso;clear fin ihr hcall;simp at *;try omega)
   ·have ret:∀(fr:List Fr) (x:EX) (e':EC), Zp 200 fr x=([], .ret)→e'.get 4=some (.bool false)→V T (PE (riseP (stM [.int .i64 k, .int .i64 n, .str s, p] d) l)) fr x e' (stM [.int .i64 k, .int .i64 n, .str s, p] d):=fun fr x e' hadv g0=>
     Z12 (.put 4 _ .nil) (Zo g0 Z08) (Z4n hadv ⟨rfl, .inr ⟨rfl, rfl, by rw [hr', decide_eq_false hrr];rfl⟩⟩)
    refine Z12 (.put 2 _ (.put 3 _ (.put 6 _ .nil))) (Zo h2 (Zo h3 (Zo h6 Z08))) (Ze ?_)
    repeat' first|((with_reducible show V _ _ _ _ _ _);first|refine Z1 rfl ?_|refine Z96 rfl rfl (fun _=>?_) (fun _=>?_)|refine V_D rfl ?_)|((with_reducible show VO _ _ _ _ _ _ _);first|refine Z8 rfl lp1 lp2 ?_|refine Z0 rfl ?_|refine Z2 ?_)|((with_reducible show VD _ _ _ _ _ _ _);first|refine Zji rfl rfl ay' ?_|refine Zji rfl rfl aw' ?_|refine Z75 rfl vy.len4 ?_|refine Z75 rfl vw.len4 ?_|refine D_cA rfl rfl hcall ?_|refine Z0z rfl ?_|refine Z55 ?_)|refine ret _ _ _ rfl rfl
    all_goals (exfalso;clear ihr ret hcall;simp at *;try omega)
end Go.Proofs.YtnedeokclnbcpaaGreatDoor
