/- PlanFinds: from the row's condition to the walk. -/
import Derived.Test.YtpagiajlefejcaaGreatDoorPfiM20
import Derived.ChangeMaps5
set_option linter.unusedSimpArgs false
set_option linter.unusedVariables false
set_option maxRecDepth 100000
set_option maxHeartbeats 16000000
namespace Go.Proofs.YtpagiajlefejcaaGreatDoor
open Go.Proofs.Tryz renaming prog → zy
section
open Go.RowKit Go.Shelf Go.ChangeShapes Go.WideShapes
namespace Pfi
theorem yo (os:Os) (A:os.Started) (H:Type) (enc:TypeId×Value→H) :
  ReturnsInHanded {} Tryz.checked os 5 .any (fun w args=>(Rows.planFindsSpec.pre enc zy Tryz.f5 [] false w args∧laidMetH zy Rows.planFindsRow.laid w)∧sizedMet enc zy Tryz.f5 (OpenSpec.ofChange Rows.planFindsSpec) false w args)
   (Rows.planFindsSpec.post enc zy Tryz.f5 false true false false):=by
 refine me (C:=Tryz.checked) (X:=fun w _=>laidMetH zy Rows.planFindsRow.laid w) (fun _ _ _ hh h=>h.of_heap hh) Fr.own A (by kernel_rfl) Tryz.func5
  (ChangeSpec.witness_shaped (enc:=enc) (C:=Tryz.checked) (os:=os) (X:=fun w _=>laidMetH zy Rows.planFindsRow.laid w) false (pK os) #[.string ⟨#[]⟩] 8 rfl (World.shaped_of_RefB (by kernel_rfl) (by kernel_rfl)) (by kernel_rfl) (by kernel_rfl) (by kernel_rfl) (uQ os _)) ?_
 intro W J args ds gs O I hW M B;have D:∀ (j:Nat) t v,Tryz.f5.params[j]? = some t→args[j]? = some v→Value.okWide zy W .any J t v:=I
 have hW':=hW;obtain ⟨p,q,ad,hV,rfl,a0,aA⟩:=hW;have hA:DataW.TrodAll enc zy W 0 (fun _=>true) true Tryz.f5.params.toList args.toList ds p:=ad;rw[Tryz.params5] at hA D;obtain ⟨v0,d0,rfl,rfl,Z⟩:=trodAll_one hA;obtain ⟨rfl,rfl⟩:=trodVars_none hV;have U:∀ x∈p,x.block<W.heap.size:=by obtain ⟨m,hm⟩:=Z;exact DataW.trod_lt m _ _ _ hm
 have g0:=Z;obtain ⟨s,rfl,-,-,-⟩:=Go.ChangeMaps.open_string Tryz.underlying9 (D 0 _ v0 rfl rfl) g0;refine (uO s.data.toList W (env M B).1 (env M B).2.1 (env M B).2.2.1 (env M B).2.2.2).mono fun ev W' ⟨he,hk⟩=>?_
 subst he;have k0:=aa.trod Fr.laidOut (by kernel_rfl) (of_decide_eq_true (by kernel_rfl)) Z hk U;exact ⟨_,rfl,_,_,_,[],_,[],hW',trodAll_mk1 (shut_bool Tryz.underlying4 _),trodAll_mk1 k0,rfl,hk.frame _,fun h=>by cases h⟩
end Pfi
end
end Go.Proofs.YtpagiajlefejcaaGreatDoor
