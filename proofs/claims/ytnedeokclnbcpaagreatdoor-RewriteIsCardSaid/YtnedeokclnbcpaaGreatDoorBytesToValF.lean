/- Nothing: where no bytes are asked. · Values: what they are over plain cells; how two stand. · How values stand: plain laws. · How two values stand: rambleref02.Compare, Same, SameAll. · How two values stand: value.Compare; whether they are the same. · How two values stand: value.Compare. · Whether two values are the same; whether all are; whether a value may be: rambleref02. · rambleref02.may, one step. -/
import Derived.Test.YtnedeokclnbcpaaGreatDoorT
import Derived.Test.YtnedeokclnbcpaaGreatDoorAmZ
set_option linter.unusedVariables false
set_option linter.unusedSimpArgs false
namespace Go.Proofs.YtnedeokclnbcpaaGreatDoor
open Go Go.AM Go.RowKit
inductive Val where
 |mk (kind n:Int) (s:List UInt8) (l:List Val)
def Val.kind:Val→Int
 |.mk k _ _ _=>k
def Val.n:Val→Int
 |.mk _ n _ _=>n
def Val.s:Val→List UInt8
 |.mk _ _ s _=>s
def Val.l:Val→List Val
 |.mk _ _ _ l=>l
def Zn (x:Int):Prop := -9223372036854775808≤x∧x≤9223372036854775807
inductive VC:Val→List PV→Prop
 |nil (k n:Int) (s:List UInt8) (hk:Zn k) (hn:Zn n) (hs:s.length≤140737488355328):VC (.mk k n s []) [.int .i64 k, .int .i64 n, .str s, .nilSl]
 |sl (k n:Int) (s:List UInt8) (l:List Val) (xs:List (List PV)) (full:Bool) (hk:Zn k) (hn:Zn n) (hs:s.length≤140737488355328) (hb:l.length≤140737488355328) (hl:xs.length=l.length)
   (h:∀(j:Nat) (v:Val) (cs:List PV), l[j]?=some v→xs[j]?=some cs→VC v cs):VC (.mk k n s l) [.int .i64 k, .int .i64 n, .str s, .sl xs full]
theorem VC.pl {v:Val} {cs:List PV} (h:VC v cs):∀c∈cs, Pl c:=by
 induction h with
 |nil k n s=>exact Z0s (.int _ _) (Z0s (.int _ _) (Z0s (.str _) (Z0s .nilSl Z31)))
 |sl k n s l xs full hk hn hs hb hl h ih=>
  refine Z0s (.int _ _) (Z0s (.int _ _) (Z0s (.str _) (Z0s (.sl _ _ fun cs hcs c hc=>?_) Z31)))
  obtain ⟨j, hj⟩:=List.getElem?_of_mem hcs
  have hlt:j<l.length:=by have:=(List.getElem?_eq_some_iff.1 hj).1;omega
  exact ih j l[j] cs (List.getElem?_eq_getElem hlt) hj c hc
def Zpa (a b:Int):Int:=if a<b then -1 else if b<a then 1 else 0
theorem Ziz (a b:Int):T.R (.call Zbu [.int .i64 a, .int .i64 b] (.int .i64 (Zpa a b))):=by
 refine Z7 rfl rfl ?_
 repeat' first|((with_reducible show V _ _ _ _ _ _);first|refine Z1 rfl ?_|refine Z7j rfl rfl (fun _=>?_) (fun _=>?_)|refine Z6 rfl rfl ?_)|refine Z0 rfl ?_|refine Z2 ?_
 all_goals simp only [decide_eq_true_eq, decide_eq_false_iff_not] at *
 all_goals unfold Zpa
 all_goals simp [*]
def Zm3:List UInt8→List UInt8→Int
 |[], []=>0
 |[], _::_ => -1
 |_::_, []=>1
 |a::x, b::y=>if a=b then Zm3 x y else Zpa a.toNat b.toNat
theorem cmpS_pre:∀(p x y:List UInt8), Zm3 (p++x) (p++y)=Zm3 x y
 |[], x, y=>rfl
 |a::p, x, y=>by simp only [List.cons_append, Zm3, if_true];exact cmpS_pre p x y
def textP (a b:List UInt8):EX→EC→St→Prop:=fun x e' st'=>st'=emptySt∧((x=.exit 0∧e'=.put 0 (.str a) (.put 1 (.str b) .nil)∧Zpa a.length b.length=Zm3 a b)∨(x=.ret∧e'=.put 4 (.int .i64 (Zm3 a b)) .nil))
theorem text_loop (a b:List UInt8) (hla:a.length≤9223372036854775806):∀(ra rb pre:List UInt8) (e:EC), a=pre++ra→b=pre++rb→e.get 0=some (.str a)→e.get 1=some (.str b)→e.get 5=some (.int .i64 pre.length)→
  V T (PE (textP a b)) [.code (.loop Z3l)] .normal e emptySt:=by
 have out:∀(ra rb pre:List UInt8) (k:List Fr) (x:EX) (e':EC), a=pre++ra→b=pre++rb→ra=[]∨rb=[]→Zs 200 k x=([], .exit 0)→e'.get 0=some (.str a)→e'.get 1=some (.str b)→V T (PE (textP a b)) k x e' emptySt:=fun ra rb pre k x e' ha hb hn hadv g0 g1=>
  Z0y (.put 0 (.str a) (.put 1 (.str b) .nil)) (Zq g0 (Zq g1 Z09)) (Z47 hadv ⟨rfl, .inl ⟨rfl, rfl, by
   rw [ha, hb, cmpS_pre]
   rcases hn with rfl|rfl
   ·cases rb<;>simp [Zm3, Zpa]<;>omega
   ·cases ra<;>simp [Zm3, Zpa]<;>omega⟩⟩)
 intro ra
 induction ra with
 |nil=>
  intro rb pre e ha hb h0 h1 h5
  refine Z0y (.put 0 (.str a) (.put 1 (.str b) (.put 5 (.int .i64 pre.length) .nil))) (Zq h0 (Zq h1 (Zq h5 Z09))) (Zf ?_)
  repeat' first|((with_reducible show V _ _ _ _ _ _);first|refine Z1 rfl ?_|refine Z9 rfl rfl ?_|refine Z7j rfl rfl (fun _=>?_) (fun _=>?_)|refine V_D rfl ?_)|((with_reducible show VO _ _ _ _ _ _ _);first|refine Z0 rfl ?_|refine Z2 ?_|refine Zh rfl ?_|refine Zk rfl rfl ?_|refine Zba rfl (fun _=>?_) (fun _=>?_))|refine Zo rfl ?_|refine out [] rb pre _ _ _ ha hb (.inl rfl) rfl rfl rfl
  all_goals (exfalso;subst ha;simp at *)
 |cons y ra ih=>
  intro rb pre e ha hb h0 h1 h5
  refine Z0y (.put 0 (.str a) (.put 1 (.str b) (.put 5 (.int .i64 pre.length) .nil))) (Zq h0 (Zq h1 (Zq h5 Z09))) (Zf ?_)
  cases rb with
  |nil=>
   repeat' first|((with_reducible show V _ _ _ _ _ _);first|refine Z1 rfl ?_|refine Z9 rfl rfl ?_|refine Z7j rfl rfl (fun _=>?_) (fun _=>?_)|refine V_D rfl ?_)|((with_reducible show VO _ _ _ _ _ _ _);first|refine Z0 rfl ?_|refine Z2 ?_|refine Zh rfl ?_|refine Zk rfl rfl ?_|refine Zba rfl (fun _=>?_) (fun _=>?_))|refine Zo rfl ?_|refine out (y::ra) [] pre _ _ _ ha hb (.inr rfl) rfl rfl rfl
   all_goals (exfalso;subst hb;simp at *)
  |cons z rb=>
   have hy:a[(pre.length:Int).toNat]?=some y:=by subst ha;simp
   have hz:b[(pre.length:Int).toNat]?=some z:=by subst hb;simp
   by_cases hyz:y=z
   ·subst hyz
    have fin:∀(k:List Fr) (x:EX) (e':EC), Zs 200 k x=([.code (.loop Z3l)], .normal)→e'.get 0=some (.str a)→e'.get 1=some (.str b)→e'.get 5=some (.int .i64 (IntKind.i64.wrap (pre.length+1)))→V T (PE (textP a b)) k x e' emptySt:=fun k x e' hadv g0 g1 g5=>Z5j hadv (by
     have hlt:pre.length<a.length:=by subst ha;simp
     have hw:IntKind.i64.wrap (pre.length+1)=((pre++[y]).length:Int):=by rw [Z01];simp;omega
     rw [hw] at g5
     exact ih rb (pre++[y]) e' (by rw [ha];simp) (by rw [hb];simp) g0 g1 g5)
    repeat' first|((with_reducible show V _ _ _ _ _ _);first|refine Z1 rfl ?_|refine Z9 rfl rfl ?_|refine V_cNe rfl rfl ?_|refine Z7j rfl rfl (fun _=>?_) (fun _=>?_)|refine V_D rfl ?_)|((with_reducible show VO _ _ _ _ _ _ _);first|refine Z0 rfl ?_|refine Z2 ?_|refine Zh rfl ?_|refine Zk rfl rfl ?_|refine Zba rfl (fun _=>?_) (fun _=>?_))|((with_reducible show VD _ _ _ _ _ _ _);first|refine D_chr y rfl rfl (by omega) hy ?_|refine D_chr y rfl rfl (by omega) hz ?_|refine Zo rfl ?_|refine Z0a ?_)|refine fin _ _ _ rfl rfl rfl rfl
    all_goals (exfalso;subst ha hb;simp at *;omega)
   ·have hne:((y.toNat:Int)=z.toNat)=False:=by
     refine eq_false fun h=>hyz ?_
     exact UInt8.toNat_inj.1 (by omega)
    have hcm:Zm3 a b=Zpa y.toNat z.toNat:=by rw [ha, hb, cmpS_pre];simp [Zm3, hyz]
    have h8:∀c:UInt8, IntKind.i64.wrap (c.toNat:Int)=c.toNat:=fun c=>by have:=c.toNat_lt;rw [Z01];omega
    have hnum:=Ziz (IntKind.i64.wrap y.toNat) (IntKind.i64.wrap z.toNat)
    rw [h8 y, h8 z, ←hcm] at hnum
    have hnum':T.R (.call Zbu [.int .i64 (IntKind.i64.wrap y.toNat), .int .i64 (IntKind.i64.wrap z.toNat)] (.int .i64 (Zm3 a b))):=by rw [h8 y, h8 z];exact hnum
    repeat' first|((with_reducible show V _ _ _ _ _ _);first|refine Z1 rfl ?_|refine Z9 rfl rfl ?_|refine Z7j rfl rfl (fun _=>?_) (fun _=>?_)|refine V_D rfl ?_)|((with_reducible show VO _ _ _ _ _ _ _);first|refine Z0 rfl ?_|refine Z2 ?_|refine Zh rfl ?_|refine Zk rfl rfl ?_|refine Zba rfl (fun _=>?_) (fun _=>?_))|((with_reducible show VD _ _ _ _ _ _ _);first|refine D_chr y rfl rfl (by omega) hy ?_|refine D_chr z rfl rfl (by omega) hz ?_|refine Zn5 rfl rfl hnum' ?_|refine Zo rfl ?_|refine Z0a ?_)|exact Z0y (.put 4 (.int .i64 (Zm3 a b)) .nil) (Zq rfl Z09) (Z47 rfl ⟨rfl, .inr ⟨rfl, rfl⟩⟩)
    all_goals clear ih out hnum hnum'
    all_goals (exfalso;subst ha hb;simp at *;omega)
theorem run_text2 (a b:List UInt8) (hla:a.length≤9223372036854775806):T.R (.call Zjw [.str a, .str b] (.int .i64 (Zm3 a b))):=by
 have hnum:=Ziz (a.length:Int) (b.length:Int)
 refine Z7 rfl rfl ?_
 repeat' first|refine Z1 rfl ?_|refine Z0 rfl ?_|refine Z2 ?_
 refine Zme rfl (text_loop a b hla a b [] _ rfl rfl rfl rfl rfl) ?_
 rintro x e' st' ⟨rfl, ⟨rfl, rfl, hc⟩|⟨rfl, rfl⟩⟩
 ·repeat' first|refine Z1 rfl ?_|refine Z6 rfl rfl ?_|((with_reducible show VO _ _ _ _ _ _ _);first|refine Z5 rfl rfl hnum ?_|refine Z0 rfl ?_|refine Z2 ?_)
  rw [hc]
 ·repeat' first|refine Z6 rfl rfl ?_
  rfl
def orI (a b:Int):Int:=if a=0 then b else a
mutual
def Zgz:Val→Val→Int
 |.mk k n s l, .mk k' n' s' l'=>orI (Zpa k k') (orI (Zpa n n') (orI (Zm3 s s') (Z39 l l')))
def Z39:List Val→List Val→Int
 |[], []=>0
 |[], _::_ => -1
 |_::_, []=>1
 |a::x, b::y=>orI (Zgz a b) (Z39 x y)
end
theorem Zp9 {a b:Int}:Zpa a b=0↔a=b:=by
 unfold Zpa
 constructor
 ·intro h
  split at h
  ·cases h
  ·split at h
   ·cases h
   ·omega
 ·rintro rfl;simp
theorem Znb {a b:Int}:orI a b=0↔a=0∧b=0:=by
 unfold orI
 constructor
 ·intro h
  split at h
  ·exact ⟨by assumption, h⟩
  ·contradiction
 ·rintro ⟨rfl, rfl⟩;rfl
theorem cmpS_zero:∀ {s t:List UInt8}, Zm3 s t=0↔s=t
 |[], []=>by simp [Zm3]
 |[], _::_=>by simp [Zm3]
 |_::_, []=>by simp [Zm3]
 |a::s, b::t=>by
  unfold Zm3
  by_cases h:a=b
  ·subst h;rw [if_pos rfl];rw [cmpS_zero];simp
  ·rw [if_neg h, Zp9]
   constructor
   ·intro h2
    exact absurd (UInt8.toNat_inj.1 (by omega)) h
   ·intro h2;injection h2 with h2;exact absurd h2 h
mutual
theorem cmpV_zero:∀ {a b:Val}, Zgz a b=0↔a=b
 |.mk k n s l, .mk k' n' s' l'=>by
  unfold Zgz
  rw [Znb, Znb, Znb, Zp9, Zp9, cmpS_zero, cmpVs_zero]
  simp
theorem cmpVs_zero:∀ {a b:List Val}, Z39 a b=0↔a=b
 |[], []=>by simp [Z39]
 |[], _::_=>by simp [Z39]
 |_::_, []=>by simp [Z39]
 |a::x, b::y=>by
  unfold Z39
  rw [Znb, cmpV_zero, cmpVs_zero]
  simp
end
theorem cmpV_self (a:Val):Zgz a a=0:=cmpV_zero.2 rfl
theorem Zc0:∀(p x y:List Val), Z39 (p++x) (p++y)=Z39 x y
 |[], x, y=>rfl
 |a::p, x, y=>by
  show orI (Zgz a a) (Z39 (p++x) (p++y))=_
  rw [cmpV_self]
  exact Zc0 p x y
def LC (l:List Val) (p:PV):Prop:=(p=.nilSl∧l=[])∨∃xs full, p=.sl xs full∧l.length≤140737488355328∧xs.length=l.length∧∀(j:Nat) (v:Val) (cs:List PV), l[j]?=some v→xs[j]?=some cs→VC v cs
theorem VC.open {k n:Int} {s:List UInt8} {l:List Val} {cs:List PV} (h:VC (.mk k n s l) cs):Zn k∧Zn n∧s.length≤140737488355328∧∃p, cs=[.int .i64 k, .int .i64 n, .str s, p]∧LC l p:=by
 cases h with
 |nil k n s hk hn hs=>exact ⟨hk, hn, hs, _, rfl, .inl ⟨rfl, rfl⟩⟩
 |sl k n s l xs full hk hn hs hb hl h=>exact ⟨hk, hn, hs, _, rfl, .inr ⟨xs, full, rfl, hb, hl, h⟩⟩
theorem LC.vc {k n:Int} {s:List UInt8} {l:List Val} {p:PV} (h:LC l p) (hk:Zn k) (hn:Zn n) (hs:s.length≤140737488355328):VC (.mk k n s l) [.int .i64 k, .int .i64 n, .str s, p]:=by
 rcases h with ⟨rfl, rfl⟩|⟨xs, full, rfl, hb, hl, h⟩
 ·exact .nil _ _ _ hk hn hs
 ·exact .sl _ _ _ _ _ _ hk hn hs hb hl h
theorem VC.len4 {v:Val} {cs:List PV} (h:VC v cs):cs.length=4:=by cases h<;>rfl
theorem VC.one {v:Val} {cs:List PV} (h:VC v cs):cs.all PV.one=true:=by cases h<;>rfl
theorem LC.len {l:List Val} {p:PV} (h:LC l p):lenOf p=some l.length∧Zco p=false∧l.length≤140737488355328:=by
 rcases h with ⟨rfl, rfl⟩|⟨xs, full, rfl, hb, hl, h⟩
 ·exact ⟨rfl, rfl, by simp⟩
 ·exact ⟨by simp [lenOf, hl], rfl, hb⟩
theorem LC.pl {l:List Val} {p:PV} (h:LC l p):Pl p:=by
 have:=(LC.vc (k:=0) (n:=0) (s:=[]) h (by simp [Zn]) (by simp [Zn]) (by simp)).pl
 exact this p (by simp)
theorem LC.at {l:List Val} {p:PV} (h:LC l p) {j:Nat} {v:Val} (hv:l[j]?=some v):∃cs, At 4 p j cs∧VC v cs:=by
 rcases h with ⟨rfl, rfl⟩|⟨xs, full, rfl, hb, hl, h⟩
 ·simp at hv
 ·have hlt:j<xs.length:=by have:=(List.getElem?_eq_some_iff.1 hv).1;omega
  have hc:=h _ v _ hv (List.getElem?_eq_getElem hlt)
  exact ⟨_, ⟨by omega, hc.len4, xs, full, rfl, by simp [hlt]⟩, hc⟩
theorem VC.ind {M:Val→List PV→Prop} (h:∀(k n:Int) (s:List UInt8) (l:List Val) (p:PV), Zn k→Zn n→s.length≤140737488355328→LC l p→(∀(j:Nat) (v:Val) (cs:List PV), l[j]?=some v→At 4 p j cs→M v cs)→M (.mk k n s l) [.int .i64 k, .int .i64 n, .str s, p]) {v:Val} {cs:List PV} (hv:VC v cs):M v cs:=by
 induction hv with
 |nil k n s hk hn hs=>exact h k n s [] .nilSl hk hn hs (.inl ⟨rfl, rfl⟩) (fun j v cs hj=>by simp at hj)
 |sl k n s l xs full hk hn hs hb hl hc ih=>
  refine h k n s l _ hk hn hs (.inr ⟨xs, full, rfl, hb, hl, hc⟩) (fun j v cs hj ha=>?_)
  obtain ⟨_, _, ys, f, he, hc2⟩:=ha
  injection he with he1 he2
  subst he1
  exact ih j v cs hj (by simpa using hc2)
def stV (ca cb:List PV):St:=⟨0, 2, [(0, .var ca), (1, .var cb)]⟩
def cmpP (S:St) (la lb:List Val):EX→EC→St→Prop:=fun x e' st'=>st'=S∧((x=.exit 0∧e'=.put 2 (.ptr 0 0) (.put 3 (.ptr 1 0) .nil)∧Zpa la.length lb.length=Z39 la lb)∨(x=.ret∧e'=.put 4 (.int .i64 (Z39 la lb)) .nil∧Z39 la lb≠0))
theorem cmp_loop (k n k' n':Int) (s s':List UInt8) (la lb:List Val) (p q:PV) (hp:LC la p) (hq:LC lb q)
  (ih:∀(j:Nat) (v:Val) (cs:List PV), la[j]?=some v→At 4 p j cs→∀(w:Val) (ds:List PV), VC w ds→T.R (.call Z3g [.agg cs, .agg ds] (.int .i64 (Zgz v w)))):
  ∀(ra rb pre:List Val) (e:EC), la=pre++ra→lb=pre++rb→e.get 2=some (.ptr 0 0)→e.get 3=some (.ptr 1 0)→e.get 8=some (.int .i64 pre.length)→
  V T (PE (cmpP (stV [.int .i64 k, .int .i64 n, .str s, p] [.int .i64 k', .int .i64 n', .str s', q]) la lb)) [.code (.loop Z2f)] .normal e (stV [.int .i64 k, .int .i64 n, .str s, p] [.int .i64 k', .int .i64 n', .str s', q]):=by
 obtain ⟨lp1, lp2, lp3⟩:=hp.len
 obtain ⟨lq1, lq2, lq3⟩:=hq.len
 have out:∀(ra rb pre:List Val) (fr:List Fr) (x:EX) (e':EC), la=pre++ra→lb=pre++rb→ra=[]∨rb=[]→Zs 200 fr x=([], .exit 0)→e'.get 2=some (.ptr 0 0)→e'.get 3=some (.ptr 1 0)→V T (PE (cmpP (stV [.int .i64 k, .int .i64 n, .str s, p] [.int .i64 k', .int .i64 n', .str s', q]) la lb)) fr x e' (stV [.int .i64 k, .int .i64 n, .str s, p] [.int .i64 k', .int .i64 n', .str s', q]):=fun ra rb pre fr x e' ha hb hn hadv g0 g1=>
  Z0y (.put 2 (.ptr 0 0) (.put 3 (.ptr 1 0) .nil)) (Zq g0 (Zq g1 Z09)) (Z47 hadv ⟨rfl, .inl ⟨rfl, rfl, by
   rw [ha, hb, Zc0]
   rcases hn with rfl|rfl
   ·cases rb<;>simp [Z39, Zpa]<;>omega
   ·cases ra<;>simp [Z39, Zpa]<;>omega⟩⟩)
 intro ra
 induction ra with
 |nil=>
  intro rb pre e ha hb h0 h1 h5
  refine Z0y (.put 2 (.ptr 0 0) (.put 3 (.ptr 1 0) (.put 8 _ .nil))) (Zq h0 (Zq h1 (Zq h5 Z09))) (Zf ?_)
  repeat' first|((with_reducible show V _ _ _ _ _ _);first|refine Z1 rfl ?_|refine Z9 rfl rfl ?_|refine Z7j rfl rfl (fun _=>?_) (fun _=>?_)|refine V_D rfl ?_)|((with_reducible show VO _ _ _ _ _ _ _);first|refine Z4 rfl lp1 lp2 ?_|refine Z4 rfl lq1 lq2 ?_|refine Z0 rfl ?_|refine Z2 ?_|refine Zh rfl ?_|refine Zk rfl rfl ?_|refine Zba rfl (fun _=>?_) (fun _=>?_))|refine Zo rfl ?_|refine out [] rb pre _ _ _ ha hb (.inl rfl) rfl rfl rfl
  all_goals (exfalso;subst ha;simp at *)
 |cons y ra ihr=>
  intro rb pre e ha hb h0 h1 h5
  refine Z0y (.put 2 (.ptr 0 0) (.put 3 (.ptr 1 0) (.put 8 _ .nil))) (Zq h0 (Zq h1 (Zq h5 Z09))) (Zf ?_)
  cases rb with
  |nil=>
   repeat' first|((with_reducible show V _ _ _ _ _ _);first|refine Z1 rfl ?_|refine Z9 rfl rfl ?_|refine Z7j rfl rfl (fun _=>?_) (fun _=>?_)|refine V_D rfl ?_)|((with_reducible show VO _ _ _ _ _ _ _);first|refine Z4 rfl lp1 lp2 ?_|refine Z4 rfl lq1 lq2 ?_|refine Z0 rfl ?_|refine Z2 ?_|refine Zh rfl ?_|refine Zk rfl rfl ?_|refine Zba rfl (fun _=>?_) (fun _=>?_))|refine Zo rfl ?_|refine out (y::ra) [] pre _ _ _ ha hb (.inr rfl) rfl rfl rfl
   all_goals (exfalso;subst hb;simp at *)
  |cons z rb=>
   have hy:la[pre.length]?=some y:=by subst ha;simp
   have hz:lb[pre.length]?=some z:=by subst hb;simp
   obtain ⟨cy, ay, vy⟩:=hp.at hy
   obtain ⟨cz, az, vz⟩:=hq.at hz
   have ply:=vy.pl
   have plz:=vz.pl
   have hcall:=ih _ y cy hy ay z cz vz
   have hcm:Z39 la lb=orI (Zgz y z) (Z39 ra rb):=by rw [ha, hb, Zc0];rfl
   by_cases hyz:Zgz y z=0
   ·have hyz':=cmpV_zero.1 hyz
    subst hyz'
    have fin:∀(fr:List Fr) (x:EX) (e':EC), Zs 200 fr x=([.code (.loop Z2f)], .normal)→e'.get 2=some (.ptr 0 0)→e'.get 3=some (.ptr 1 0)→e'.get 8=some (.int .i64 (IntKind.i64.wrap (pre.length+1)))→V T (PE (cmpP (stV [.int .i64 k, .int .i64 n, .str s, p] [.int .i64 k', .int .i64 n', .str s', q]) la lb)) fr x e' (stV [.int .i64 k, .int .i64 n, .str s, p] [.int .i64 k', .int .i64 n', .str s', q]):=fun fr x e' hadv g0 g1 g5=>Z5j hadv (by
     have hlt:pre.length<la.length:=by subst ha;simp
     have hw:IntKind.i64.wrap (pre.length+1)=((pre++[y]).length:Int):=by rw [Z01];simp;omega
     rw [hw] at g5
     exact ihr rb (pre++[y]) e' (by rw [ha];simp) (by rw [hb];simp) g0 g1 g5)
    rw [hyz] at hcall
    repeat' first|((with_reducible show V _ _ _ _ _ _);first|refine Z1 rfl ?_|refine Z9 rfl rfl ?_|refine Z7j rfl rfl (fun _=>?_) (fun _=>?_)|refine V_D rfl ?_)|((with_reducible show VO _ _ _ _ _ _ _);first|refine Z4 rfl lp1 lp2 ?_|refine Z4 rfl lq1 lq2 ?_|refine Z0 rfl ?_|refine Z2 ?_|refine Zh rfl ?_|refine Zk rfl rfl ?_|refine Zba rfl (fun _=>?_) (fun _=>?_))|((with_reducible show VD _ _ _ _ _ _ _);first|refine Z40 rfl rfl ay ?_|refine Z40 rfl rfl az ?_|refine Z3y rfl vy.len4 ?_|refine Z3y rfl vz.len4 ?_|refine Zn5 rfl rfl hcall ?_|refine Zo rfl ?_|refine Z0a ?_)|refine fin _ _ _ rfl rfl rfl rfl
    all_goals (exfalso;subst ha hb;simp at *;try omega)
   ·have ret:∀(fr:List Fr) (x:EX) (e':EC), Zs 200 fr x=([], .ret)→e'.get 4=some (.int .i64 (Zgz y z))→V T (PE (cmpP (stV [.int .i64 k, .int .i64 n, .str s, p] [.int .i64 k', .int .i64 n', .str s', q]) la lb)) fr x e' (stV [.int .i64 k, .int .i64 n, .str s, p] [.int .i64 k', .int .i64 n', .str s', q]):=fun fr x e' hadv g0=>by
     have he:Z39 la lb=Zgz y z:=by rw [hcm];exact if_neg hyz
     exact Z0y (.put 4 _ .nil) (Zq g0 Z09) (Z47 hadv ⟨rfl, .inr ⟨rfl, by rw [he], by rw [he];exact hyz⟩⟩)
    generalize hcr:Zgz y z=r at hcall ret hyz
    repeat' first|((with_reducible show V _ _ _ _ _ _);first|refine Z1 rfl ?_|refine Z9 rfl rfl ?_|refine Z7j rfl rfl (fun _=>?_) (fun _=>?_)|refine V_D rfl ?_)|((with_reducible show VO _ _ _ _ _ _ _);first|refine Z4 rfl lp1 lp2 ?_|refine Z4 rfl lq1 lq2 ?_|refine Z0 rfl ?_|refine Z2 ?_|refine Zh rfl ?_|refine Zk rfl rfl ?_|refine Zba rfl (fun _=>?_) (fun _=>?_))|((with_reducible show VD _ _ _ _ _ _ _);first|refine Z40 rfl rfl ay ?_|refine Z40 rfl rfl az ?_|refine Z3y rfl vy.len4 ?_|refine Z3y rfl vz.len4 ?_|refine Zn5 rfl rfl hcall ?_|refine Zo rfl ?_|refine Z0a ?_)|refine ret _ _ _ rfl rfl
    all_goals clear ihr ret out hcall ih
    all_goals (exfalso;first|(subst ha hb;simp at *;omega)|(refine hyz ?_;simp_all;done))
theorem Zlq {a:Val} {ca:List PV} (ha:VC a ca):∀(b:Val) (cb:List PV), VC b cb→T.R (.call Z3g [.agg ca, .agg cb] (.int .i64 (Zgz a b))):=by
 refine VC.ind (M:=fun a ca=>∀(b:Val) (cb:List PV), VC b cb→T.R (.call Z3g [.agg ca, .agg cb] (.int .i64 (Zgz a b)))) ?_ ha
 rintro k n s l p hk hn hs hp ih ⟨k', n', s', l'⟩ cb hb
 obtain ⟨hk', hn', hs', q, rfl, hq⟩:=hb.open
 have h1:=Ziz k k'
 have h2:=Ziz n n'
 have h3:=run_text2 s s' (by omega)
 have h4:=Ziz l.length l'.length
 have plp:=hp.pl
 have plq:=hq.pl
 obtain ⟨lp1, lp2, lp3⟩:=hp.len
 obtain ⟨lq1, lq2, lq3⟩:=hq.len
 have hl:=fun e h0 h1 h2=>cmp_loop k n k' n' s s' l l' p q hp hq ih l l' [] e rfl rfl h0 h1 h2
 unfold Zgz orI
 generalize Zpa k k'=r1 at h1 ⊢
 generalize Zpa n n'=r2 at h2 ⊢
 generalize Zm3 s s'=r3 at h3 ⊢
 refine Z7 rfl rfl ?_
 repeat' first|((with_reducible show V _ _ _ _ _ _);first|refine Zme rfl (hl _ rfl rfl rfl) ?_|refine Z1 rfl ?_|refine Z7j rfl rfl (fun _=>?_) (fun _=>?_)|refine Z6 rfl rfl ?_)|((with_reducible show VO _ _ _ _ _ _ _);first|refine Zc rfl ?_|refine Z5 rfl rfl h1 ?_|refine Z5 rfl rfl h2 ?_|refine Z5 rfl rfl h3 ?_|refine Z0 rfl ?_|refine Z2 ?_)
 all_goals simp only [Bool.not_eq_true', Bool.not_eq_false', decide_eq_true_eq, decide_eq_false_iff_not] at *
 ·rw [if_neg ‹_›]
 ·rw [if_pos ‹_›, if_neg ‹_›]
 ·rw [if_pos ‹_›, if_pos ‹_›, if_neg ‹_›]
 ·rw [if_pos ‹_›, if_pos ‹_›, if_pos ‹_›]
  rintro x e' st' ⟨rfl, ⟨rfl, rfl, hc⟩|⟨rfl, rfl, hc⟩⟩
  ·rw [hc] at h4
   repeat' first|refine Z1 rfl ?_|refine Z6 rfl rfl ?_|((with_reducible show VO _ _ _ _ _ _ _);first|refine Z4 rfl lp1 lp2 ?_|refine Z4 rfl lq1 lq2 ?_|refine Z5 rfl rfl h4 ?_|refine Z0 rfl ?_|refine Z2 ?_)
   all_goals rfl
  ·repeat' first|refine Z6 rfl rfl ?_
   all_goals rfl
theorem run_isNaN (a:Int):T.R (.call Zon [.int .i64 a] (.bool false)):=by
 refine Z7 rfl rfl ?_
 repeat' first|refine Z1 rfl ?_|refine Z6 rfl rfl ?_|refine Z0 rfl ?_|refine Z2 ?_
 all_goals simp
theorem run_isNaN64 (a:Int):T.R (.call Zl0 [.int .i64 a] (.bool false)):=by
 refine Z7 rfl rfl ?_
 repeat' first|refine Z1 rfl ?_|refine Z6 rfl rfl ?_|refine Z0 rfl ?_|refine Z2 ?_
 all_goals simp
theorem run_cmpInt (a b:Int):T.R (.call Zl1 [.int .i64 a, .int .i64 b] (.int .i64 (Zpa a b))):=by
 refine Z7 rfl rfl ?_
 repeat' first|((with_reducible show V _ _ _ _ _ _);first|refine Z1 rfl ?_|refine Z9 rfl rfl ?_|refine Z7j rfl rfl (fun _=>?_) (fun _=>?_)|refine Z6 rfl rfl ?_)|((with_reducible show VO _ _ _ _ _ _ _);first|refine Z5 rfl rfl (run_isNaN _) ?_|refine Z0 rfl ?_|refine Z2 ?_)
 all_goals simp only [decide_eq_true_eq, decide_eq_false_iff_not] at *
 all_goals unfold Zpa
 all_goals simp [*]
theorem run_cmpInt64 (a b:Int):T.R (.call Zi2 [.int .i64 a, .int .i64 b] (.int .i64 (Zpa a b))):=by
 refine Z7 rfl rfl ?_
 repeat' first|((with_reducible show V _ _ _ _ _ _);first|refine Z1 rfl ?_|refine Z9 rfl rfl ?_|refine Z7j rfl rfl (fun _=>?_) (fun _=>?_)|refine Z6 rfl rfl ?_)|((with_reducible show VO _ _ _ _ _ _ _);first|refine Z5 rfl rfl (run_isNaN64 _) ?_|refine Z0 rfl ?_|refine Z2 ?_)
 all_goals simp only [decide_eq_true_eq, decide_eq_false_iff_not] at *
 all_goals unfold Zpa
 all_goals simp [*]
theorem cmpS_lib:∀a b:List UInt8, Lib.compareBytes a b=Zm3 a b
 |[], []=>rfl
 |[], _::_=>rfl
 |_::_, []=>rfl
 |a::x, b::y=>by
  unfold Lib.compareBytes Zm3 Zpa
  rw [cmpS_lib x y]
  by_cases h:a=b
  ·subst h;simp
  ·rw [if_neg h]
   by_cases h2:a<b
   ·rw [if_pos h2, if_pos (by have:=UInt8.lt_iff_toNat_lt.1 h2;omega)]
   ·have h3:b<a:=by
     rcases UInt8.lt_or_lt_of_ne h with h3|h3
     ·exact absurd h3 h2
     ·exact h3
    rw [if_neg h2, if_pos h3, if_neg (by have:=UInt8.lt_iff_toNat_lt.1 h3;omega), if_pos (by have:=UInt8.lt_iff_toNat_lt.1 h3;omega)]
theorem Zkq (a b:List UInt8):T.R (.call Zch [.str a, .str b] (.int .i64 (Zm3 a b))):=by
 have hx:T.ext Z0t [.str a, .str b] (.int .i64 (Zm3 a b)):=X_cmp ⟨rfl, a, b, rfl, by rw [cmpS_lib]⟩
 refine Z7 rfl rfl ?_
 repeat' first|refine Z1 rfl ?_|refine Z6 rfl rfl ?_|((with_reducible show VO _ _ _ _ _ _ _);first|refine O_extP rfl rfl (Z0c) rfl hx ?_|refine Z0 rfl ?_|refine Z2 ?_)
 all_goals rfl
theorem Zps (a b:List UInt8):T.R (.call Zkx [.str a, .str b] (.int .i64 (Zm3 a b))):=by
 have hx:=Zkq a b
 refine Z7 rfl rfl ?_
 repeat' first|refine Z1 rfl ?_|refine Z6 rfl rfl ?_|((with_reducible show VO _ _ _ _ _ _ _);first|refine Z5 rfl rfl hx ?_|refine Z0 rfl ?_|refine Z2 ?_)
 all_goals rfl
theorem run_Or4 (a b c d:Int) (f:Bool):T.R (.call n_cmp_Or_int [.sl [[.int .i64 a], [.int .i64 b], [.int .i64 c], [.int .i64 d]] f] (.int .i64 (orI a (orI b (orI c d))))):=by
 unfold orI
 refine Z7 rfl rfl ?_
 repeat' first|((with_reducible show V _ _ _ _ _ _);first|refine Z9x rfl (Zf ?_)|refine Z1 rfl ?_|refine Za rfl rfl ?_|refine Z9 rfl rfl ?_|refine Z7j rfl rfl (fun _=>?_) (fun _=>?_)|refine Z6 rfl rfl ?_)|refine Z0 rfl ?_|refine Z2 ?_
 all_goals simp only [Bool.not_eq_true', Bool.not_eq_false', decide_eq_true_eq, decide_eq_false_iff_not] at *
 all_goals simp [*]
def cmpF (p q:PV) (la lb:List Val):EX→EC→St→Prop:=fun x e' st'=>(x=.exit 0∧st'=emptySt∧e'=.put 0 p (.put 1 q .nil)∧Z39 la lb=if la.length<lb.length then -1 else 0)∨(x=.ret∧e'=.put 6 (.int .i64 (Z39 la lb)) .nil)
theorem cmpf_loop (la lb:List Val) (p q:PV) (hp:LC la p) (hq:LC lb q)
  (ih:∀(j:Nat) (v:Val) (cs:List PV), la[j]?=some v→At 4 p j cs→∀(w:Val) (ds:List PV), VC w ds→T.R (.call Z0p [.agg cs, .agg ds] (.int .i64 (Zgz v w)))):
  ∀(ra rb pre:List Val) (e:EC), la=pre++ra→lb=pre++rb→e.get 0=some p→e.get 1=some q→e.get 2=some (.func Z0p [])→e.get 11=some p→e.get 12=some (.int .i64 la.length)→e.get 13=some (.int .i64 pre.length)→
  V T (PE (cmpF p q la lb)) [.code (.loop Z0h)] .normal e emptySt:=by
 obtain ⟨lp1, lp2, lp3⟩:=hp.len
 obtain ⟨lq1, lq2, lq3⟩:=hq.len
 intro ra
 induction ra with
 |nil=>
  intro rb pre e ha hb h0 h1 h2 h11 h12 h13
  refine Z0y (.put 0 p (.put 1 q (.put 2 (.func Z0p []) (.put 11 p (.put 12 (.int .i64 la.length) (.put 13 (.int .i64 pre.length) .nil)))))) (Zq h0 (Zq h1 (Zq h2 (Zq h11 (Zq h12 (Zq h13 Z09)))))) (Zf ?_)
  have hc:Z39 la lb=if la.length<lb.length then -1 else 0:=by
   rw [ha, hb, Zc0]
   cases rb with
   |nil=>simp [Z39]
   |cons z rb=>rw [if_pos (by simp)];rfl
  have out:∀(fr:List Fr) (x:EX) (e':EC), Zs 200 fr x=([], .exit 0)→e'.get 0=some p→e'.get 1=some q→V T (PE (cmpF p q la lb)) fr x e' emptySt:=fun fr x e' hadv g0 g1=>
   Z0y (.put 0 p (.put 1 q .nil)) (Zq g0 (Zq g1 Z09)) (Z47 hadv (.inl ⟨rfl, rfl, rfl, hc⟩))
  repeat' first|refine Z1 rfl ?_|refine Z7j rfl rfl (fun _=>?_) (fun _=>?_)|refine Z0 rfl ?_|refine Z2 ?_|refine out _ _ _ rfl rfl rfl
  all_goals (exfalso;subst ha;simp at *)
 |cons y ra ihr=>
  intro rb pre e ha hb h0 h1 h2 h11 h12 h13
  refine Z0y (.put 0 p (.put 1 q (.put 2 (.func Z0p []) (.put 11 p (.put 12 (.int .i64 la.length) (.put 13 (.int .i64 pre.length) .nil)))))) (Zq h0 (Zq h1 (Zq h2 (Zq h11 (Zq h12 (Zq h13 Z09)))))) (Zf ?_)
  have hy:la[pre.length]?=some y:=by subst ha;simp
  obtain ⟨cy, ay, vy⟩:=hp.at hy
  have hih:=ih _ y cy hy ay
  obtain ⟨ky, ny, sy, ly⟩:=y
  obtain ⟨hk1, hn1, hs1, py, rfl, hpy⟩:=vy.open
  have ply:=hpy.pl
  have ret:∀(fr:List Fr) (x:EX) (e':EC) (st':St) (r:Int), Zs 200 fr x=([], .ret)→e'.get 6=some (.int .i64 r)→r=Z39 la lb→V T (PE (cmpF p q la lb)) fr x e' st':=fun fr x e' st' r hadv g0 hr=>by
   subst hr
   exact Z0y (.put 6 _ .nil) (Zq g0 Z09) (Z47 hadv (.inr ⟨rfl, rfl⟩))
  cases rb with
  |nil=>
   have hc:1=Z39 la lb:=by rw [ha, hb, Zc0];rfl
   repeat' first|refine Z1 rfl ?_|refine Z7j rfl rfl (fun _=>?_) (fun _=>?_)|((with_reducible show VO _ _ _ _ _ _ _);first|refine Zc rfl ?_|refine Z8v rfl rfl vy.one rfl rfl rfl ?_|refine Zg rfl rfl ay ?_|refine Z4 rfl lq1 lq2 ?_|refine Z0 rfl ?_|refine Z2 ?_)|refine ret _ _ _ _ 1 rfl rfl hc
   all_goals (exfalso;clear ret hih ihr ih hc;subst ha hb;simp at *;try omega)
  |cons z rb=>
   have hz:lb[pre.length]?=some z:=by subst hb;simp
   obtain ⟨cz, az, vz⟩:=hq.at hz
   have hcall:=hih z cz vz
   have hcm:Z39 la lb=orI (Zgz (.mk ky ny sy ly) z) (Z39 ra rb):=by rw [ha, hb, Zc0];rfl
   have hz0:Zgz (.mk ky ny sy ly) z=0→(.mk ky ny sy ly)=z:=cmpV_zero.1
   generalize hr:Zgz (.mk ky ny sy ly) z=r at hcall hcm hz0
   obtain ⟨kz, nz, sz, lz⟩:=z
   obtain ⟨hk2, hn2, hs2, pz, rfl, hpz⟩:=vz.open
   have plz:=hpz.pl
   by_cases hyz:r=0
   ·have hyz':=hz0 hyz
    have fin:∀(fr:List Fr) (x:EX) (e':EC) (st':St), Zs 200 fr x=([.code (.loop Z0h)], .normal)→e'.get 0=some p→e'.get 1=some q→e'.get 2=some (.func Z0p [])→e'.get 11=some p→e'.get 12=some (.int .i64 la.length)→e'.get 13=some (.int .i64 (IntKind.i64.wrap (pre.length+1)))→st'.base=0→V T (PE (cmpF p q la lb)) fr x e' st':=fun fr x e' st' hadv g0 g1 g2 g11 g12 g13 hb0=>Z5j hadv (by
     have hlt:pre.length<la.length:=by subst ha;simp
     have hw:IntKind.i64.wrap (pre.length+1)=((pre++[Val.mk ky ny sy ly]).length:Int):=by rw [Z01];simp;omega
     rw [hw] at g13
     have:=Zpl (st:=st') [(0, p), (1, q), (2, .func Z0p []), (11, p), (12, .int .i64 la.length), (13, .int .i64 ((pre++[Val.mk ky ny sy ly]).length:Int))]
      (Zle g0 hp.pl.bel (Zle g1 hq.pl.bel (Zle g2 (.func _ _ (by simp)) (Zle g11 hp.pl.bel (Zle g12 (.int _ _) (Zle g13 (.int _ _) fg_nil)))))) (by omega)
      (T:=T) (Q:=PE (cmpF p q la lb)) (c:=.loop Z0h) (k:=[])
     rw [hb0] at this
     exact this (ihr rb (pre++[Val.mk ky ny sy ly]) _ (by rw [ha];simp) (by rw [hb, hyz'];simp) rfl rfl rfl rfl rfl rfl))
    subst hyz
    repeat' first|((with_reducible show V _ _ _ _ _ _);first|refine Z1 rfl ?_|refine Z9 rfl rfl ?_|refine Z7j rfl rfl (fun _=>?_) (fun _=>?_))|((with_reducible show VO _ _ _ _ _ _ _);first|refine Zc rfl ?_|refine Z8v rfl rfl vy.one rfl rfl rfl ?_|refine Zg rfl rfl ay ?_|refine Zg rfl rfl az ?_|refine Z8v rfl rfl vz.one rfl rfl rfl ?_|refine Z4 rfl lq1 lq2 ?_|refine Z5 rfl rfl hcall ?_|refine Z0 rfl ?_|refine Z2 ?_)|refine fin _ _ _ _ rfl rfl rfl rfl rfl rfl rfl rfl
    all_goals (exfalso;clear ret hih ihr ih fin;subst ha hb;simp at *;try omega)
   ·have hc:r=Z39 la lb:=by rw [hcm];exact (if_neg hyz).symm
    repeat' first|refine Z1 rfl ?_|refine Z7j rfl rfl (fun _=>?_) (fun _=>?_)|((with_reducible show VO _ _ _ _ _ _ _);first|refine Zc rfl ?_|refine Z8v rfl rfl vy.one rfl rfl rfl ?_|refine Zg rfl rfl ay ?_|refine Zg rfl rfl az ?_|refine Z8v rfl rfl vz.one rfl rfl rfl ?_|refine Z4 rfl lq1 lq2 ?_|refine Z5 rfl rfl hcall ?_|refine Z0 rfl ?_|refine Z2 ?_)|refine ret _ _ _ _ r rfl rfl hc
    all_goals (exfalso;clear ret hih ihr ih hc hcall)
    all_goals first|(subst ha hb;simp at *;omega)|(refine hyz ?_;simp_all;done)
theorem Znz (la lb:List Val) (p q:PV) (hp:LC la p) (hq:LC lb q)
  (ih:∀(j:Nat) (v:Val) (cs:List PV), la[j]?=some v→At 4 p j cs→∀(w:Val) (ds:List PV), VC w ds→T.R (.call Z0p [.agg cs, .agg ds] (.int .i64 (Zgz v w)))):
  T.R (.call Z71 [p, q, .func Z0p []] (.int .i64 (Z39 la lb))):=by
 obtain ⟨lp1, lp2, lp3⟩:=hp.len
 obtain ⟨lq1, lq2, lq3⟩:=hq.len
 have hl:=fun e h0 h1 h2 h3 h4 h5=>cmpf_loop la lb p q hp hq ih la lb [] e rfl rfl h0 h1 h2 h3 h4 h5
 generalize hc:Z39 la lb=r at hl ⊢
 refine Z7 rfl rfl ?_
 repeat' first|refine Zme rfl (hl _ rfl rfl rfl rfl rfl rfl) ?_|refine Z1 rfl ?_|((with_reducible show VO _ _ _ _ _ _ _);first|refine Z4 rfl lp1 lp2 ?_|refine Z0 rfl ?_|refine Z2 ?_)
 rintro x e' st' (⟨rfl, rfl, rfl, h⟩|⟨rfl, rfl⟩)
 ·rw [hc] at h
  repeat' first|((with_reducible show V _ _ _ _ _ _);first|refine Z1 rfl ?_|refine Z7j rfl rfl (fun _=>?_) (fun _=>?_)|refine Z6 rfl rfl ?_)|((with_reducible show VO _ _ _ _ _ _ _);first|refine Z4 rfl lp1 lp2 ?_|refine Z4 rfl lq1 lq2 ?_|refine Z0 rfl ?_|refine Z2 ?_)
  all_goals simp only [decide_eq_true_eq, decide_eq_false_iff_not] at *
  ·rw [h, if_pos (by omega)]
  ·rw [h, if_neg (by omega)]
 ·rw [hc]
  repeat' first|refine Z6 rfl rfl ?_
  all_goals rfl
theorem Zo0 {a:Val} {ca:List PV} (ha:VC a ca):∀(b:Val) (cb:List PV), VC b cb→T.R (.call Z0p [.agg ca, .agg cb] (.int .i64 (Zgz a b))):=by
 refine VC.ind (M:=fun a ca=>∀(b:Val) (cb:List PV), VC b cb→T.R (.call Z0p [.agg ca, .agg cb] (.int .i64 (Zgz a b)))) ?_ ha
 rintro k n s l p hk hn hs hp ih ⟨k', n', s', l'⟩ cb hb
 obtain ⟨hk', hn', hs', q, rfl, hq⟩:=hb.open
 have h1:=run_cmpInt k k'
 have h2:=run_cmpInt64 n n'
 have h3:=Zps s s'
 have h4:=Znz l l' p q hp hq ih
 have plp:=hp.pl
 have plq:=hq.pl
 have h5:=run_Or4 (Zpa k k') (Zpa n n') (Zm3 s s') (Z39 l l') true
 refine Z7 rfl rfl ?_
 repeat' first|((with_reducible show V _ _ _ _ _ _);first|refine Z1 rfl ?_|refine Z6 rfl rfl ?_|refine V_D rfl ?_)|((with_reducible show VO _ _ _ _ _ _ _);first|refine Zc rfl ?_|refine Z0 rfl ?_|refine Z2 ?_)|((with_reducible show VD _ _ _ _ _ _ _);first|refine Zn5 rfl rfl h1 ?_|refine Zn5 rfl rfl h2 ?_|refine Zn5 rfl rfl h3 ?_|refine Zn5 rfl rfl h4 ?_|refine Zn5 rfl rfl h5 ?_|refine Zo rfl ?_|refine Z0a ?_)
 all_goals (unfold Zgz;rfl)
theorem run_Same {a b:Val} {ca cb:List PV} (ha:VC a ca) (hb:VC b cb):T.R (.call Zjx [.agg ca, .agg cb] (.bool (decide (Zgz a b=0)))):=by
 have h:=Zlq ha b cb hb
 generalize Zgz a b=r at h ⊢
 obtain ⟨k, n, s, l⟩:=a
 obtain ⟨k', n', s', l'⟩:=b
 obtain ⟨hk, hn, hs, p, rfl, hp⟩:=ha.open
 obtain ⟨hk', hn', hs', q, rfl, hq⟩:=hb.open
 have plp:=hp.pl
 have plq:=hq.pl
 refine Z7 rfl rfl ?_
 repeat' first|refine Z1 rfl ?_|refine Z6 rfl rfl ?_|((with_reducible show VO _ _ _ _ _ _ _);first|refine Zc rfl ?_|refine Z5 rfl rfl h ?_|refine Z0 rfl ?_|refine Z2 ?_)
 all_goals rfl
def sameP (la lb:List Val):EX→EC→St→Prop:=fun x e' st'=>st'=emptySt∧((x=.exit 0∧la=lb)∨(x=.ret∧e'=.put 4 (.bool false) .nil∧la≠lb))
theorem same_loop (la lb:List Val) (p q:PV) (hp:LC la p) (hq:LC lb q) (hll:la.length=lb.length):
  ∀(ra rb pre:List Val) (e:EC), la=pre++ra→lb=pre++rb→e.get 0=some p→e.get 1=some q→e.get 5=some (.int .i64 pre.length)→
  V T (PE (sameP la lb)) [.code (.loop Z2e)] .normal e emptySt:=by
 obtain ⟨lp1, lp2, lp3⟩:=hp.len
 obtain ⟨lq1, lq2, lq3⟩:=hq.len
 intro ra
 induction ra with
 |nil=>
  intro rb pre e ha hb h0 h1 h5
  have hrb:rb=[]:=by subst ha hb;simp at hll;exact hll
  have out:∀(fr:List Fr) (x:EX) (e':EC), Zs 200 fr x=([], .exit 0)→V T (PE (sameP la lb)) fr x e' emptySt:=fun fr x e' hadv=>Z47 hadv ⟨rfl, .inl ⟨rfl, by rw [ha, hb, hrb]⟩⟩
  refine Z0y (.put 0 p (.put 1 q (.put 5 (.int .i64 pre.length) .nil))) (Zq h0 (Zq h1 (Zq h5 Z09))) (Zf ?_)
  repeat' first|((with_reducible show V _ _ _ _ _ _);first|refine Z1 rfl ?_|refine Za rfl rfl ?_|refine Z9 rfl rfl ?_|refine V_cEq rfl rfl ?_|refine V_cNe rfl rfl ?_|refine Z7j rfl rfl (fun _=>?_) (fun _=>?_)|refine Z6 rfl rfl ?_|refine V_fAN rfl rfl ?_|refine V_D rfl ?_)|((with_reducible show VO _ _ _ _ _ _ _);first|refine Z4 rfl lp1 lp2 ?_|refine Z0 rfl ?_|refine Z2 ?_|refine Zh rfl ?_|refine Z3x rfl ?_|refine Zk rfl rfl ?_|refine O_gEq rfl ?_|refine O_gNe rfl ?_|refine Zba rfl (fun _=>?_) (fun _=>?_))|((with_reducible show VD _ _ _ _ _ _ _);first|refine Zo rfl ?_|refine Z0a ?_|refine Ze6 rfl ?_|refine D_gU' rfl ?_|refine Z7h rfl rfl ?_|refine D_gS rfl (fun _=>?_) (fun _=>?_))|refine out _ _ _ rfl
  all_goals (exfalso;clear out;subst ha;simp at *)
 |cons y ra ihr=>
  intro rb pre e ha hb h0 h1 h5
  refine Z0y (.put 0 p (.put 1 q (.put 5 (.int .i64 pre.length) .nil))) (Zq h0 (Zq h1 (Zq h5 Z09))) (Zf ?_)
  cases rb with
  |nil=>exfalso;subst ha hb;simp at hll
  |cons z rb=>
   have hy:la[pre.length]?=some y:=by subst ha;simp
   have hz:lb[pre.length]?=some z:=by subst hb;simp
   obtain ⟨cy, ay, vy⟩:=hp.at hy
   obtain ⟨cz, az, vz⟩:=hq.at hz
   have ply:=vy.pl
   have plz:=vz.pl
   have hcall:=run_Same vy vz
   by_cases hyz:Zgz y z=0
   ·have hyz':=cmpV_zero.1 hyz
    have fin:∀(fr:List Fr) (x:EX) (e':EC), Zs 200 fr x=([.code (.loop Z2e)], .normal)→e'.get 0=some p→e'.get 1=some q→e'.get 5=some (.int .i64 (IntKind.i64.wrap (pre.length+1)))→V T (PE (sameP la lb)) fr x e' emptySt:=fun fr x e' hadv g0 g1 g5=>Z5j hadv (by
     have hlt:pre.length<la.length:=by subst ha;simp
     have hw:IntKind.i64.wrap (pre.length+1)=((pre++[y]).length:Int):=by rw [Z01];simp;omega
     rw [hw] at g5
     exact ihr rb (pre++[y]) e' (by rw [ha];simp) (by rw [hb, hyz'];simp) g0 g1 g5)
    rw [hyz] at hcall
    repeat' first|((with_reducible show V _ _ _ _ _ _);first|refine Z1 rfl ?_|refine Za rfl rfl ?_|refine Z9 rfl rfl ?_|refine V_cEq rfl rfl ?_|refine V_cNe rfl rfl ?_|refine Z7j rfl rfl (fun _=>?_) (fun _=>?_)|refine Z6 rfl rfl ?_|refine V_fAN rfl rfl ?_|refine V_D rfl ?_)|((with_reducible show VO _ _ _ _ _ _ _);first|refine Z4 rfl lp1 lp2 ?_|refine Z0 rfl ?_|refine Z2 ?_|refine Zh rfl ?_|refine Z3x rfl ?_|refine Zk rfl rfl ?_|refine O_gEq rfl ?_|refine O_gNe rfl ?_|refine Zba rfl (fun _=>?_) (fun _=>?_))|((with_reducible show VD _ _ _ _ _ _ _);first|refine Z40 rfl rfl ay ?_|refine Z40 rfl rfl az ?_|refine Z3y rfl vy.len4 ?_|refine Z3y rfl vz.len4 ?_|refine Zn5 rfl rfl hcall ?_|refine Zo rfl ?_|refine Z0a ?_|refine Ze6 rfl ?_|refine D_gU' rfl ?_|refine Z7h rfl rfl ?_|refine D_gS rfl (fun _=>?_) (fun _=>?_))|refine fin _ _ _ rfl rfl rfl rfl
    all_goals (exfalso;clear fin ihr hcall;subst ha hb;simp at *;try omega)
   ·have ret:∀(fr:List Fr) (x:EX) (e':EC), Zs 200 fr x=([], .ret)→e'.get 4=some (.bool false)→V T (PE (sameP la lb)) fr x e' emptySt:=fun fr x e' hadv g0=>by
     refine Z0y (.put 4 _ .nil) (Zq g0 Z09) (Z47 hadv ⟨rfl, .inr ⟨rfl, rfl, fun he=>hyz ?_⟩⟩)
     rw [ha, hb] at he
     have:=List.append_cancel_left he
     injection this with h1 h2
     rw [h1]
     exact cmpV_self _
    rw [decide_eq_false hyz] at hcall
    repeat' first|((with_reducible show V _ _ _ _ _ _);first|refine Z1 rfl ?_|refine Za rfl rfl ?_|refine Z9 rfl rfl ?_|refine V_cEq rfl rfl ?_|refine V_cNe rfl rfl ?_|refine Z7j rfl rfl (fun _=>?_) (fun _=>?_)|refine Z6 rfl rfl ?_|refine V_fAN rfl rfl ?_|refine V_D rfl ?_)|((with_reducible show VO _ _ _ _ _ _ _);first|refine Z4 rfl lp1 lp2 ?_|refine Z0 rfl ?_|refine Z2 ?_|refine Zh rfl ?_|refine Z3x rfl ?_|refine Zk rfl rfl ?_|refine O_gEq rfl ?_|refine O_gNe rfl ?_|refine Zba rfl (fun _=>?_) (fun _=>?_))|((with_reducible show VD _ _ _ _ _ _ _);first|refine Z40 rfl rfl ay ?_|refine Z40 rfl rfl az ?_|refine Z3y rfl vy.len4 ?_|refine Z3y rfl vz.len4 ?_|refine Zn5 rfl rfl hcall ?_|refine Zo rfl ?_|refine Z0a ?_|refine Ze6 rfl ?_|refine D_gU' rfl ?_|refine Z7h rfl rfl ?_|refine D_gS rfl (fun _=>?_) (fun _=>?_))|refine ret _ _ _ rfl rfl
    all_goals (exfalso;clear ihr ret hcall;subst ha hb;simp at *;try omega)
theorem Zc7 (la lb:List Val) (p q:PV) (hp:LC la p) (hq:LC lb q):T.R (.call Zet [p, q] (.bool (decide (Z39 la lb=0)))):=by
 obtain ⟨lp1, lp2, lp3⟩:=hp.len
 obtain ⟨lq1, lq2, lq3⟩:=hq.len
 have plp:=hp.pl
 have plq:=hq.pl
 have hc:decide (Z39 la lb=0)=true↔la=lb:=by rw [decide_eq_true_eq, cmpVs_zero]
 generalize decide (Z39 la lb=0)=r at hc ⊢
 have hf:la≠lb→r=false:=fun h=>by cases r with
  |true=>exact absurd (hc.1 rfl) h
  |false=>rfl
 by_cases hll:la.length=lb.length
 ·have hl:=fun e h0 h1 h2=>same_loop la lb p q hp hq hll la lb [] e rfl rfl h0 h1 h2
  refine Z7 rfl rfl ?_
  repeat' first|((with_reducible show V _ _ _ _ _ _);first|refine Zme rfl (hl _ rfl rfl rfl) ?_|refine Z1 rfl ?_|refine Za rfl rfl ?_|refine Z9 rfl rfl ?_|refine V_cEq rfl rfl ?_|refine V_cNe rfl rfl ?_|refine Z7j rfl rfl (fun _=>?_) (fun _=>?_)|refine Z6 rfl rfl ?_|refine V_fAN rfl rfl ?_|refine V_D rfl ?_)|((with_reducible show VO _ _ _ _ _ _ _);first|refine Z4 rfl lp1 lp2 ?_|refine Z4 rfl lq1 lq2 ?_|refine Z0 rfl ?_|refine Z2 ?_|refine Zh rfl ?_|refine Z3x rfl ?_|refine Zk rfl rfl ?_|refine O_gEq rfl ?_|refine O_gNe rfl ?_|refine Zba rfl (fun _=>?_) (fun _=>?_))|((with_reducible show VD _ _ _ _ _ _ _);first|refine Zo rfl ?_|refine Z0a ?_|refine Ze6 rfl ?_|refine D_gU' rfl ?_|refine Z7h rfl rfl ?_|refine D_gS rfl (fun _=>?_) (fun _=>?_))
  ·exfalso;simp at *;omega
  ·rintro x e' st' ⟨rfl, ⟨rfl, h⟩|⟨rfl, rfl, h⟩⟩
   ·repeat' first|((with_reducible show V _ _ _ _ _ _);first|refine Z1 rfl ?_|refine Za rfl rfl ?_|refine Z9 rfl rfl ?_|refine V_cEq rfl rfl ?_|refine V_cNe rfl rfl ?_|refine Z7j rfl rfl (fun _=>?_) (fun _=>?_)|refine Z6 rfl rfl ?_|refine V_fAN rfl rfl ?_|refine V_D rfl ?_)|((with_reducible show VO _ _ _ _ _ _ _);first|refine Z0 rfl ?_|refine Z2 ?_|refine Zh rfl ?_|refine Z3x rfl ?_|refine Zk rfl rfl ?_|refine O_gEq rfl ?_|refine O_gNe rfl ?_|refine Zba rfl (fun _=>?_) (fun _=>?_))|((with_reducible show VD _ _ _ _ _ _ _);first|refine Zo rfl ?_|refine Z0a ?_|refine Ze6 rfl ?_|refine D_gU' rfl ?_|refine Z7h rfl rfl ?_|refine D_gS rfl (fun _=>?_) (fun _=>?_))
    rw [hc.2 h]
   ·repeat' first|((with_reducible show V _ _ _ _ _ _);first|refine Z1 rfl ?_|refine Za rfl rfl ?_|refine Z9 rfl rfl ?_|refine V_cEq rfl rfl ?_|refine V_cNe rfl rfl ?_|refine Z7j rfl rfl (fun _=>?_) (fun _=>?_)|refine Z6 rfl rfl ?_|refine V_fAN rfl rfl ?_|refine V_D rfl ?_)|((with_reducible show VO _ _ _ _ _ _ _);first|refine Z0 rfl ?_|refine Z2 ?_|refine Zh rfl ?_|refine Z3x rfl ?_|refine Zk rfl rfl ?_|refine O_gEq rfl ?_|refine O_gNe rfl ?_|refine Zba rfl (fun _=>?_) (fun _=>?_))|((with_reducible show VD _ _ _ _ _ _ _);first|refine Zo rfl ?_|refine Z0a ?_|refine Ze6 rfl ?_|refine D_gU' rfl ?_|refine Z7h rfl rfl ?_|refine D_gS rfl (fun _=>?_) (fun _=>?_))
    rw [hf h]
 ·refine Z7 rfl rfl ?_
  repeat' first|((with_reducible show V _ _ _ _ _ _);first|refine Z1 rfl ?_|refine Za rfl rfl ?_|refine Z9 rfl rfl ?_|refine V_cEq rfl rfl ?_|refine V_cNe rfl rfl ?_|refine Z7j rfl rfl (fun _=>?_) (fun _=>?_)|refine Z6 rfl rfl ?_|refine V_fAN rfl rfl ?_|refine V_D rfl ?_)|((with_reducible show VO _ _ _ _ _ _ _);first|refine Z4 rfl lp1 lp2 ?_|refine Z4 rfl lq1 lq2 ?_|refine Z0 rfl ?_|refine Z2 ?_|refine Zh rfl ?_|refine Z3x rfl ?_|refine Zk rfl rfl ?_|refine O_gEq rfl ?_|refine O_gNe rfl ?_|refine Zba rfl (fun _=>?_) (fun _=>?_))|((with_reducible show VD _ _ _ _ _ _ _);first|refine Zo rfl ?_|refine Z0a ?_|refine Ze6 rfl ?_|refine D_gU' rfl ?_|refine Z7h rfl rfl ?_|refine D_gS rfl (fun _=>?_) (fun _=>?_))
  ·rw [hf (fun h=>hll (by rw [h]))]
  all_goals (exfalso;simp at *;omega)
def Z26:List Val→Bool
 |a::_::c::r=>decide (Zgz a c<0)&&Z26 (c::r)
 |_=>true
def Zp:Nat→Val→Bool
 |0, _=>false
 |f+1, .mk k n s l=>
  if k=1 then decide (s=[])&&decide ((l.length:Int)=0)
  else if k=3 then decide (s=[])&&decide ((l.length:Int)=0)&&(decide (n=0)||decide (n=1))
  else if k=6 then decide (s=[])&&decide ((l.length:Int)=0)&&decide (1≤n)&&decide (n≤281474976710656)
  else if k=7 then decide (s=[])&&decide ((l.length:Int)=0)&&decide (1≤n)&&decide (n≤281474976710656)
  else if k=2 then decide (n=0)&&decide ((l.length:Int)=0)&&decide ((s.length:Int)≤128)
  else if k=4 then decide (n=0)&&decide (s=[])&&decide ((l.length:Int)≤256)&&l.all (Zp f)
  else if k=5 then decide (n=0)&&decide (s=[])&&decide ((l.length:Int)≤512)&&decide ((l.length:Int).tmod 2=0)&&l.all (Zp f)&&Z26 l
  else false
set_option maxHeartbeats 4000000 in
theorem run_may2_step (f:Nat) (d:Int) (hd:d+f=7∧0≤d) (k n:Int) (s:List UInt8) (l:List Val) (p:PV) (hp:LC l p)
  (hall:T.R (.call Zbv [p, .int .i64 d] (.bool (l.all (Zp f))))) (hri:T.R (.call Z9p [p] (.bool (Z26 l)))):
  T.R (.call Z3n [.agg [.int .i64 k, .int .i64 n, .str s, p], .int .i64 d] (.bool (Zp (f+1) (.mk k n s l)))):=by
 obtain ⟨lp1, lp2, lp3⟩:=hp.len
 have plp:=hp.pl
 have hd8:decide (8≤d)=false:=decide_eq_false (by omega)
 by_cases h1:k=1
 ·subst h1
  have hm:Zp (f+1) (.mk 1 n s l)=(decide (s=[])&&decide ((l.length:Int)=0)):=by simp [Zp]
  rw [hm]
  generalize l.all (Zp f)=a at hall ⊢
  generalize Z26 l=r at hri ⊢
  refine Z7 rfl rfl ?_
  repeat' first|((with_reducible show V _ _ _ _ _ _);first|refine Z48 hd8 rfl rfl ?_|refine Z1 rfl ?_|refine Za rfl rfl ?_|refine Z6 rfl rfl ?_)|((with_reducible show VO _ _ _ _ _ _ _);first|refine Zc rfl ?_|refine Z4 rfl lp1 lp2 ?_|refine Z0 rfl ?_|refine Z2 ?_|refine Zh rfl ?_|refine Zk rfl rfl ?_|refine Zba rfl (fun _=>?_) (fun _=>?_))
  all_goals (clear hall hri hm;simp only [*, Bool.true_and, Bool.and_true, Bool.false_and, Bool.and_false, Bool.true_or, Bool.or_true, Bool.false_or, Bool.or_false, Bool.not_true, Bool.not_false])
 by_cases h3:k=3
 ·subst h3
  have hm:Zp (f+1) (.mk 3 n s l)=(decide (s=[])&&decide ((l.length:Int)=0)&&(decide (n=0)||decide (n=1))):=by simp [Zp]
  rw [hm]
  generalize l.all (Zp f)=a at hall ⊢
  generalize Z26 l=r at hri ⊢
  refine Z7 rfl rfl ?_
  repeat' first|((with_reducible show V _ _ _ _ _ _);first|refine Z48 hd8 rfl rfl ?_|refine Z1 rfl ?_|refine Za rfl rfl ?_|refine Z9 rfl rfl ?_|refine Z6 rfl rfl ?_)|((with_reducible show VO _ _ _ _ _ _ _);first|refine Zc rfl ?_|refine Z4 rfl lp1 lp2 ?_|refine Z0 rfl ?_|refine Z2 ?_|refine Zh rfl ?_|refine Z3x rfl ?_|refine Zk rfl rfl ?_|refine Zba rfl (fun _=>?_) (fun _=>?_))
  all_goals (clear hall hri hm;simp only [*, Bool.true_and, Bool.and_true, Bool.false_and, Bool.and_false, Bool.true_or, Bool.or_true, Bool.false_or, Bool.or_false, Bool.not_true, Bool.not_false])
 by_cases h6:k=6
 ·subst h6
  have hm:Zp (f+1) (.mk 6 n s l)=(decide (s=[])&&decide ((l.length:Int)=0)&&decide (1≤n)&&decide (n≤281474976710656)):=by simp [Zp]
  rw [hm]
  generalize l.all (Zp f)=a at hall ⊢
  generalize Z26 l=r at hri ⊢
  refine Z7 rfl rfl ?_
  repeat' first|((with_reducible show V _ _ _ _ _ _);first|refine Z48 hd8 rfl rfl ?_|refine Z1 rfl ?_|refine Za rfl rfl ?_|refine Z9 rfl rfl ?_|refine Z6 rfl rfl ?_)|((with_reducible show VO _ _ _ _ _ _ _);first|refine Zc rfl ?_|refine Z4 rfl lp1 lp2 ?_|refine Z0 rfl ?_|refine Z2 ?_|refine Zh rfl ?_|refine Zk rfl rfl ?_|refine Zba rfl (fun _=>?_) (fun _=>?_))
  all_goals (clear hall hri hm;simp only [*, Bool.true_and, Bool.and_true, Bool.false_and, Bool.and_false, Bool.true_or, Bool.or_true, Bool.false_or, Bool.or_false, Bool.not_true, Bool.not_false])
 by_cases h7:k=7
 ·subst h7
  have hm:Zp (f+1) (.mk 7 n s l)=(decide (s=[])&&decide ((l.length:Int)=0)&&decide (1≤n)&&decide (n≤281474976710656)):=by simp [Zp]
  rw [hm]
  generalize l.all (Zp f)=a at hall ⊢
  generalize Z26 l=r at hri ⊢
  refine Z7 rfl rfl ?_
  repeat' first|((with_reducible show V _ _ _ _ _ _);first|refine Z48 hd8 rfl rfl ?_|refine Z1 rfl ?_|refine Za rfl rfl ?_|refine Z9 rfl rfl ?_|refine Z6 rfl rfl ?_)|((with_reducible show VO _ _ _ _ _ _ _);first|refine Zc rfl ?_|refine Z4 rfl lp1 lp2 ?_|refine Z0 rfl ?_|refine Z2 ?_|refine Zh rfl ?_|refine Zk rfl rfl ?_|refine Zba rfl (fun _=>?_) (fun _=>?_))
  all_goals (clear hall hri hm;simp only [*, Bool.true_and, Bool.and_true, Bool.false_and, Bool.and_false, Bool.true_or, Bool.or_true, Bool.false_or, Bool.or_false, Bool.not_true, Bool.not_false])
 by_cases h2:k=2
 ·subst h2
  have hm:Zp (f+1) (.mk 2 n s l)=(decide (n=0)&&decide ((l.length:Int)=0)&&decide ((s.length:Int)≤128)):=by simp [Zp]
  rw [hm]
  generalize l.all (Zp f)=a at hall ⊢
  generalize Z26 l=r at hri ⊢
  refine Z7 rfl rfl ?_
  repeat' first|((with_reducible show V _ _ _ _ _ _);first|refine Z48 hd8 rfl rfl ?_|refine Z1 rfl ?_|refine Za rfl rfl ?_|refine Z9 rfl rfl ?_|refine Z6 rfl rfl ?_)|((with_reducible show VO _ _ _ _ _ _ _);first|refine Zc rfl ?_|refine Z4 rfl lp1 lp2 ?_|refine Z0 rfl ?_|refine Z2 ?_|refine Zh rfl ?_|refine Zk rfl rfl ?_|refine Zba rfl (fun _=>?_) (fun _=>?_))
  all_goals (clear hall hri hm;simp only [*, Bool.true_and, Bool.and_true, Bool.false_and, Bool.and_false, Bool.true_or, Bool.or_true, Bool.false_or, Bool.or_false, Bool.not_true, Bool.not_false])
 by_cases h4:k=4
 ·subst h4
  have hm:Zp (f+1) (.mk 4 n s l)=(decide (n=0)&&decide (s=[])&&decide ((l.length:Int)≤256)&&l.all (Zp f)):=by simp [Zp]
  rw [hm]
  generalize l.all (Zp f)=a at hall ⊢
  generalize Z26 l=r at hri ⊢
  refine Z7 rfl rfl ?_
  repeat' first|((with_reducible show V _ _ _ _ _ _);first|refine Z48 hd8 rfl rfl ?_|refine Z1 rfl ?_|refine Za rfl rfl ?_|refine Z9 rfl rfl ?_|refine Z6 rfl rfl ?_)|((with_reducible show VO _ _ _ _ _ _ _);first|refine Zc rfl ?_|refine Z4 rfl lp1 lp2 ?_|refine Z5 rfl rfl hall ?_|refine Z0 rfl ?_|refine Z2 ?_|refine Zh rfl ?_|refine Zk rfl rfl ?_|refine Zba rfl (fun _=>?_) (fun _=>?_))
  all_goals (clear hall hri hm;simp only [*, Bool.true_and, Bool.and_true, Bool.false_and, Bool.and_false, Bool.true_or, Bool.or_true, Bool.false_or, Bool.or_false, Bool.not_true, Bool.not_false])
 by_cases h5:k=5
 ·subst h5
  have hm:Zp (f+1) (.mk 5 n s l)=(decide (n=0)&&decide (s=[])&&decide ((l.length:Int)≤512)&&decide ((l.length:Int).tmod 2=0)&&l.all (Zp f)&&Z26 l):=by simp [Zp]
  rw [hm]
  generalize l.all (Zp f)=a at hall ⊢
  generalize Z26 l=r at hri ⊢
  refine Z7 rfl rfl ?_
  repeat' first|((with_reducible show V _ _ _ _ _ _);first|refine Z48 hd8 rfl rfl ?_|refine Z1 rfl ?_|refine Za rfl rfl ?_|refine Z9 rfl rfl ?_|refine Z6 rfl rfl ?_)|((with_reducible show VO _ _ _ _ _ _ _);first|refine Zc rfl ?_|refine Z4 rfl lp1 lp2 ?_|refine O_rem rfl rfl rfl ?_|refine Z5 rfl rfl hall ?_|refine Z5 rfl rfl hri ?_|refine Z0 rfl ?_|refine Z2 ?_|refine Zh rfl ?_|refine Zk rfl rfl ?_|refine Zba rfl (fun _=>?_) (fun _=>?_))
  all_goals (clear hall hri hm;simp only [*, Bool.true_and, Bool.and_true, Bool.false_and, Bool.and_false, Bool.true_or, Bool.or_true, Bool.false_or, Bool.or_false, Bool.not_true, Bool.not_false])
 ·have hm:Zp (f+1) (.mk k n s l)=false:=by simp [Zp, *]
  rw [hm]
  refine Z7 rfl rfl ?_
  repeat' first|((with_reducible show V _ _ _ _ _ _);first|refine Z48 hd8 rfl rfl ?_|refine Z48 (decide_eq_false h1) rfl rfl ?_|refine Z48 (decide_eq_false h3) rfl rfl ?_|refine Z48 (decide_eq_false h6) rfl rfl ?_|refine Z48 (decide_eq_false h7) rfl rfl ?_|refine Z48 (decide_eq_false h2) rfl rfl ?_|refine Z48 (decide_eq_false h4) rfl rfl ?_|refine Z48 (decide_eq_false h5) rfl rfl ?_|refine Z1 rfl ?_|refine Z6 rfl rfl ?_)|((with_reducible show VO _ _ _ _ _ _ _);first|refine Zc rfl ?_|refine Z0 rfl ?_|refine Z2 ?_)
  all_goals rfl
end Go.Proofs.YtnedeokclnbcpaaGreatDoor
