/- strings.Trim by the library's contract; entries without a body. · Readings of values. · Readings of values and of steps. -/
import Derived.Test.YtnedeokclnbcpaaGreatDoorT
import Derived.Test.YtnedeokclnbcpaaGreatDoorShelf
import Derived.Test.YtnedeokclnbcpaaGreatDoorAmZ
import Derived.Test.YtnedeokclnbcpaaGreatDoorProg
import Derived.Test.YtnedeokclnbcpaaGreatDoorBytesToValF
import Derived.Test.YtnedeokclnbcpaaGreatDoorNameAToStpD
set_option linter.unusedVariables false
set_option linter.unusedSimpArgs false
namespace Go.Proofs.YtnedeokclnbcpaaGreatDoor
open Go Go.AM Go.RowKit
instance:Gl:=⟨fun _=>True, fun _ _=>True.intro⟩
theorem P_sem:∀f args r, P0 f args r→Zii Tryz.prog f args r:=by
 rintro f args r ⟨rfl, s, cs, hs, hc, ha, rfl, rfl⟩
 refine ⟨⟨Tryz.f221, (Tryz.f221.body).getD .skip, Tryz.func221, by kernel_rfl, by kernel_rfl⟩, fun F w vals hF hg hsz hrep=>?_⟩
 have e0:vals.getD 0 undef=.string ⟨s.toArray⟩:=Z2y (hrep 0 _ rfl)
 have e1:vals.getD 1 undef=.string ⟨cs.toArray⟩:=Z2y (hrep 1 _ rfl)
 have ev:vals = #[.string ⟨s.toArray⟩, .string ⟨cs.toArray⟩]:=by rw [arr2 hsz, e0, e1]
 have hz:(⟨s.toArray⟩:ByteArray).size=s.length:=by simp [ByteArray.size]
 have hy:(⟨cs.toArray⟩:ByteArray).size=cs.length:=by simp [ByteArray.size]
 have hd:(⟨s.toArray⟩:ByteArray).data.toList=s:=by simp
 have hd2:(⟨cs.toArray⟩:ByteArray).data.toList=cs:=by simp
 rw [ev]
 have h:=Any.strings_Trim_laid Tryz.lays160 (by kernel_rfl) ⟨s.toArray⟩ ⟨cs.toArray⟩ w (by omega) (by omega) (fun j b hb=>ha b (by rw [hd2] at hb;exact List.mem_of_getElem? hb))
 rw [hd, hd2] at h
 exact Calls.mono h fun e w' ⟨he, hb⟩=>⟨_, he, hb, .str _⟩
theorem X_sem:∀f args r, X f args r→Zc3 Tryz.prog f args r:=by
 rintro f args r (h|h|h)
 ·exact h.sem Tryz.func243 (by kernel_rfl) (by kernel_rfl) (by kernel_rfl) (by kernel_rfl)
 ·exact h.sem Tryz.func264 (by kernel_rfl) (by kernel_rfl) (by kernel_rfl) (by kernel_rfl)
 ·exact h.sem Tryz.func253 (by kernel_rfl) (by kernel_rfl) (by kernel_rfl) (by kernel_rfl)
theorem Zp2 {n:Int} (h:IntKind.i64.min≤n∧n≤IntKind.i64.max):Zn n:=by
 have h1:IntKind.i64.min = -9223372036854775808:=rfl
 have h2:IntKind.i64.max=9223372036854775807:=rfl
 rw [h1, h2] at h
 exact h
instance:Inhabited Val:=⟨.mk 0 0 [] []⟩
section
variable {H:Type} {B:TypeId→DataW H→Prop} (hB:BdOK Tryz.prog B)
include hB
theorem rd_val:∀(n:Nat) (d:DataW H) (cs:List PV), SizeOf.sizeOf d≤n→TV Tryz.prog 52 d cs→B 52 d→∃v, VC v cs:=by
 intro n
 induction n with
 |zero=>
  intro d cs hn
  cases d<;>simp at hn
 |succ n ih=>
  intro d cs hn h hb
  obtain ⟨ds, qss, rfl, rfl, hl1, hl2, hf⟩:=Znp Tryz.underlying52 h
  have hbf:=hB.st Tryz.underlying52 hb
  have hsz:=fun d h=>Zqu (H:=H) (ds:=ds) (d:=d) h
  match ds, qss, hl1, hl2, hf, hbf, hsz, hn with
  |[d0, d1, d2, d3], [q0, q1, q2, q3], hl1, hl2, hf, hbf, hsz, hn=>
   have f3:=hf 3 _ d3 q3 rfl rfl rfl
   obtain ⟨k, _, rfl, hk⟩:=tv_int Tryz.underlying3 (hf 0 _ d0 q0 rfl rfl rfl)
   obtain ⟨m, _, rfl, hm⟩:=tv_int Tryz.underlying2 (hf 1 _ d1 q1 rfl rfl rfl)
   obtain ⟨s, rfl, rfl, _⟩:=tv_str Tryz.underlying9 (hf 2 _ d2 q2 rfl rfl rfl)
   have hs:=hB.str (hbf 2 _ _ rfl rfl)
   have h3:=hsz d3 (by simp)
   obtain ⟨q, l, rfl, hq⟩:=lr_of (R:=VC) hB Tryz.underlying50 (of_decide_eq_true (by kernel_rfl)) (of_decide_eq_true (by kernel_rfl)) f3 (hbf 3 _ _ rfl rfl) (fun x cs hx hv hbx=>ih x cs (by omega) hv hbx)
   exact ⟨.mk k m s l, LC.vc hq (Zp2 hk) (Zp2 hm) hs⟩
theorem rd_vals {d:DataW H} {qs:List PV} (h:TV Tryz.prog 50 d qs) (hb:B 50 d):∃q l, qs=[q]∧LR VC q l:=
 lr_of hB Tryz.underlying50 (of_decide_eq_true (by kernel_rfl)) (of_decide_eq_true (by kernel_rfl)) h hb (fun x cs _ hv hbx=>rd_val hB _ x cs (Nat.le_refl _) hv hbx)
end
instance:Inhabited Prd:=⟨.mk 0 []⟩
instance:Inhabited Stp:=⟨.mk 0 [] [] [] [] []⟩
section
variable {H:Type} {B:TypeId→DataW H→Prop} (hB:BdOK Tryz.prog B)
include hB
theorem rd_name (d:DataW H) (cs:List PV) (h:TV Tryz.prog 9 d cs) (hb:B 9 d):∃a, NmC a cs:=by
 obtain ⟨s, rfl, rfl, _⟩:=tv_str Tryz.underlying9 h
 exact ⟨s, hB.str hb, rfl⟩
omit hB in
theorem rd_num (d:DataW H) (cs:List PV) (h:TV Tryz.prog 2 d cs):∃a, NuC a cs:=by
 obtain ⟨n, _, rfl, hn⟩:=tv_int Tryz.underlying2 h
 exact ⟨n, Zp2 hn, rfl⟩
theorem rd_prd (d:DataW H) (cs:List PV) (h:TV Tryz.prog 103 d cs) (hb:B 103 d):∃a, PrC a cs:=by
 obtain ⟨ds, qss, rfl, rfl, hl1, hl2, hf⟩:=Znp Tryz.underlying103 h
 have hbf:=hB.st Tryz.underlying103 hb
 match ds, qss, hl1, hl2, hf, hbf with
 |[d0, d1], [q0, q1], hl1, hl2, hf, hbf=>
  obtain ⟨k, _, rfl, hk⟩:=tv_int Tryz.underlying3 (hf 0 _ d0 q0 rfl rfl rfl)
  obtain ⟨q, l, rfl, hq⟩:=rd_vals hB (hf 1 _ d1 q1 rfl rfl rfl) (hbf 1 _ _ rfl rfl)
  exact ⟨.mk k l, Zp2 hk, q, rfl, hq⟩
theorem rd_stp:∀(n:Nat) (d:DataW H) (cs:List PV), SizeOf.sizeOf d≤n→TV Tryz.prog 63 d cs→B 63 d→∃s, SC n s cs:=by
 intro n
 induction n with
 |zero=>
  intro d cs hn
  cases d<;>simp at hn
 |succ n ih=>
  intro d cs hn h hb
  obtain ⟨ds, qss, rfl, rfl, hl1, hl2, hf⟩:=Znp Tryz.underlying63 h
  have hbf:=hB.st Tryz.underlying63 hb
  have hsz:=fun d h=>Zqu (H:=H) (ds:=ds) (d:=d) h
  match ds, qss, hl1, hl2, hf, hbf, hsz, hn with
  |[d0, d1, d2, d3, d4, d5], [q0, q1, q2, q3, q4, q5], hl1, hl2, hf, hbf, hsz, hn=>
   obtain ⟨k, _, rfl, hk⟩:=tv_int Tryz.underlying3 (hf 0 _ d0 q0 rfl rfl rfl)
   obtain ⟨p1, l1, rfl, h1⟩:=lr_of (R:=NmC) hB Tryz.underlying58 (of_decide_eq_true (by kernel_rfl)) (of_decide_eq_true (by kernel_rfl)) (hf 1 _ d1 q1 rfl rfl rfl) (hbf 1 _ _ rfl rfl) (fun x cs _ hv hbx=>rd_name hB x cs hv hbx)
   obtain ⟨p2, l2, rfl, h2⟩:=lr_of (R:=NuC) hB Tryz.underlying59 (of_decide_eq_true (by kernel_rfl)) (of_decide_eq_true (by kernel_rfl)) (hf 2 _ d2 q2 rfl rfl rfl) (hbf 2 _ _ rfl rfl) (fun x cs _ hv hbx=>rd_num x cs hv)
   obtain ⟨p3, l3, rfl, h3⟩:=lr_of (R:=PrC) hB Tryz.underlying60 (of_decide_eq_true (by kernel_rfl)) (of_decide_eq_true (by kernel_rfl)) (hf 3 _ d3 q3 rfl rfl rfl) (hbf 3 _ _ rfl rfl) (fun x cs _ hv hbx=>rd_prd hB x cs hv hbx)
   obtain ⟨p4, l4, rfl, h4⟩:=rd_vals hB (hf 4 _ d4 q4 rfl rfl rfl) (hbf 4 _ _ rfl rfl)
   have s5:=hsz d5 (by simp)
   obtain ⟨p5, l5, rfl, h5⟩:=lr_of (R:=SubC (SC n)) hB Tryz.underlying61 (of_decide_eq_true (by kernel_rfl)) (of_decide_eq_true (by kernel_rfl)) (hf 5 _ d5 q5 rfl rfl rfl) (hbf 5 _ _ rfl rfl) (fun x cs hx hv hbx=>by
    obtain ⟨q, l, rfl, hq⟩:=lr_of (R:=SC n) hB Tryz.underlying22 (of_decide_eq_true (by kernel_rfl)) (of_decide_eq_true (by kernel_rfl)) hv hbx (fun y cs hy hv hby=>ih y cs (by omega) hv hby)
    exact ⟨l, q, rfl, hq⟩)
   exact ⟨.mk k l1 l2 l3 l4 l5, Zp2 hk, p1, p2, p3, p4, p5, rfl, h1, h2, h3, h4, h5⟩
theorem rd_stps {d:DataW H} {qs:List PV} (h:TV Tryz.prog 22 d qs) (hb:B 22 d):∃q l, qs=[q]∧SL (SizeOf.sizeOf d) q l:=
 lr_of hB Tryz.underlying22 (of_decide_eq_true (by kernel_rfl)) (of_decide_eq_true (by kernel_rfl)) h hb (fun x cs hx hv hbx=>rd_stp hB _ x cs (by omega) hv hbx)
end
end Go.Proofs.YtnedeokclnbcpaaGreatDoor
