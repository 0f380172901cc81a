/- RewriteIs: the law. -/
import Derived.Test.YtnedeokclnbcpaaGreatDoorRgBToRgE
import Derived.Test.YtnedeokclnbcpaaGreatDoorRwZToRfA
set_option linter.unusedVariables false
set_option linter.unusedSimpArgs false
namespace Go.Proofs.YtnedeokclnbcpaaGreatDoor
open Go Go.AM Go.RowKit
set_option maxHeartbeats 4000000 in
theorem run_Is {n:Nat} {l:List Stp} {p:PV} (hp:SL n p l):T.R (.call Zcf [p] (.bool true)):=by
 have plp:=SL.pl hp
 obtain ⟨b, hf, hbd⟩:=run_few n l p 1 hp
 have hbg:=run_begun
 cases b with
 |false=>
  refine Z7 rfl rfl ?_
  repeat' first|((with_reducible show V _ _ _ _ _ _);first|refine Z1 rfl ?_|refine Za rfl rfl ?_|refine Z6 rfl rfl ?_)|((with_reducible show VO _ _ _ _ _ _ _);first|refine Z5 rfl rfl hf ?_|refine Z0 rfl ?_|refine Z2 ?_)
  rfl
 |true=>
  have hcn:=hbd rfl
  obtain ⟨q1, h1, h2⟩:=Zny hp hcn
  obtain ⟨q2, k1, k2⟩:=run_RRewrite hp hcn
  have hd:=Z0f (p:=Zpb l=Zpb l) rfl
  have same:T.R (.call Z0w [q1, q2] (.bool true))∧Pl q1∧Pl q2:=by
   rcases h2 with ⟨h0, hq1⟩|⟨h0, rfl⟩
   ·rcases k2 with ⟨_, hq2⟩|⟨k0, _⟩
    ·exact ⟨run_rSame n (rwL l) q1 q2 hq1 hq2, SL.pl hq1, SL.pl hq2⟩
    ·exact absurd h0 k0
   ·rcases k2 with ⟨k0, _⟩|⟨_, rfl⟩
    ·exact absurd k0 h0
    ·exact ⟨run_rSame n [] _ _ (.inl ⟨rfl, rfl⟩) (.inl ⟨rfl, rfl⟩), .nilSl, .nilSl⟩
  obtain ⟨hs, plq1, plq2⟩:=same
  clear h2 k2
  refine Z7 rfl rfl ?_
  repeat' first|((with_reducible show V _ _ _ _ _ _);first|refine Z1 rfl ?_|refine Z9 rfl rfl ?_|refine Z6 rfl rfl ?_)|((with_reducible show VO _ _ _ _ _ _ _);first|refine Z5 rfl rfl hf ?_|refine Z5 rfl rfl h1 ?_|refine Z5 rfl rfl k1 ?_|refine Z5 rfl rfl hbg ?_|refine Z5 rfl rfl hs ?_|refine Z3 hd rfl ?_|refine Z0 rfl ?_|refine Z2 ?_|refine Zh rfl ?_)
  rfl
end Go.Proofs.YtnedeokclnbcpaaGreatDoor
