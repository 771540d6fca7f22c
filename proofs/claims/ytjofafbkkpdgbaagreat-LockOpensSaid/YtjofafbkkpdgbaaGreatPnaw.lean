/- LockOpens: the row, for every place, lock, counter, tree or not: a lock begins as the document says, may be as it says, and settles as it says. -/
import Derived.Test.YtjofafbkkpdgbaaGreatPnav
set_option maxRecDepth 100000
set_option maxHeartbeats 4000000
set_option linter.all false
namespace Go.Proofs.YtjofafbkkpdgbaaGreat
open Go.Proofs.Tryz
open Go.ChangeShapes Go.WideShapes Go.ChangeAt Go.RowKit Go.Joins Go.Shelf
theorem Ad7 {H:Type} {enc:TypeId×Value->H} {W:World} {base:Nat} {v:Value} {d:DataW H} {p:List MemPlace} (hv:Value.okWide prog W .any base 31 v)
  (h:DataW.Trod enc prog W 0 (λ_=>true) true 31 v d p):∃z:Ctr,v=.agg (Ke z).toArray:=by
 obtain⟨cs,rfl,hsz⟩:=okWide_struct underlying31 hv;obtain⟨l⟩:=cs;obtain⟨fuel,hf⟩:=h;have h:DataW.trod enc prog W 0 (λ_=>true) true fuel 31 l=some (d,p):=hf;obtain⟨z,e⟩:=EI h;subst e;exact⟨z,I⟩
theorem IN (os:Os) (started:os.Started) (H:Type) (enc:TypeId×Value->H):
  ReturnsInHanded {} Tryz.checked os 3 .any (Rows.lockOpensSpec.pre6 enc prog Tryz.f3 Rows.lockOpensRow.domain false) (Rows.lockOpensSpec.post enc prog Tryz.f3 false true false false):=by
 refine returnsInHanded_of_change (C:=Tryz.checked) Tryz.own started tqK func3
  (ChangeSpec.witness6 (enc:=enc) (C:=Tryz.checked) false ⟨#[],#[.agg #[.int .i64 0,.int .i64 0,.int .i64 0,.int .i64 0,.int .i64 0,.int .i64 0,.int .i64 0,.int .i64 0,.int .i64 0,.bool false,.bool false,.bool false,.int .i64 0,.slice none 0 0,.slice none 0 0,.slice none 0 0,.int .i64 0,.int .i64 0,.int .u64 0,.int .i64 0,.int .i64 0,.int .i64 0,.slice none 0 0,.slice none 0 0,.slice none 0 0],.bool false,.agg #[.int .i64 0,.int .i64 0,.int .u64 0]],[]⟩ 8 tqK tqK tqK tqK) ?_
 intro W base args ds gs before hval0 hW _ _;have hval:∀(j:Nat) t v,Tryz.f3.params[j]? =some t->args[j]? =some v->Value.okWide prog W .any base t v:=hval0;have hW':=hW;obtain⟨p,q,hA0,hV,rfl,_,_⟩:=hW;have hA:DataW.TrodAll enc prog W 0 (λ_=>true) true Tryz.f3.params.toList args.toList ds p:=hA0;rw[Tryz.params3] at hA hval;obtain⟨v0,v1,v2,d0,d1,d2,p0,p1,p2,rfl,rfl,rfl,h0,h1,h2⟩:=trodAll_three hA;obtain⟨rfl,rfl⟩:=trodVars_none hV;obtain⟨pl,x,q0,e0,hfacts⟩:=Aks (hval 0 42 v0 I I) h0;obtain⟨tree,e1⟩:=okWide_bool underlying4 (hval 1 4 v1 I I);obtain⟨c,e2⟩:=Ad7 (hval 2 31 v2 I I) h2;clear hA0 hval0;simp only[Bu] at hW';have hl0:∀x∈p0,x.block<W.heap.size:=λx hx=>hW'.lt x (by simp[hx]);have hl1:∀x∈p1,x.block<W.heap.size:=λx hx=>hW'.lt x (by simp[hx]);have hl2:∀x∈p2,x.block<W.heap.size:=λx hx=>hW'.lt x (by simp[hx]);have key:=VZ (Aaj pl x q0 tree c) W hfacts;rw[<-e0,<-e1,<-e2] at key;refine key.mono λe W' ⟨he,hB⟩=>?_;subst he;refine⟨_,I,_,_,_,[],p0++(p1++p2),[],hW',?_,?_,I,hB.frame _,λh=>by cases h⟩
 ·exact trodAll_mk1 (shut_bool underlying4 true)
 ·exact trodAll_mk3 (Below.trod Tryz.laidOut tqK (Kf tqK) h0 hB hl0) (Below.trod Tryz.laidOut tqK (Kf tqK) h1 hB hl1) (Below.trod Tryz.laidOut tqK (Kf tqK) h2 hB hl2)
theorem An4:mapsRowed prog=true:=tqK
theorem Ami:prog.stops=[]:=tqK
theorem Amh:prog.stopKnobs=[]:=tqK
theorem Amg:prog.inPlace 3=Rows.lockOpensRow.inPlace:=tqK
theorem Aov:prog.unfollowed 3=Rows.lockOpensRow.unfollowed:=tqK
theorem Aou:prog.recurses 3=Rows.lockOpensRow.recurses:=tqK
theorem Amf:prog.varsNamed 3=Rows.lockOpensRow.named:=tqK
theorem An2:prog.plainKeys=Rows.lockOpensRow.plainKeys:=tqK
theorem Amd:prog.stopsHeard=true:=tqK
theorem Amc:prog.mayEnter=true:=tqK
theorem Ame:prog.liftsFinal=Rows.lockOpensRow.lifted:=tqK
theorem An3:prog.make=some Rows.lockOpensRow.make:=tqK
theorem jFn:prog.funcNamed Rows.lockOpensRow.func=some 3:=tqK
theorem Aot:joinedFacts prog 3 Tryz.f3 Rows.lockOpensSpec Rows.lockOpensRow=true:=by
 unfold joinedFacts;rw[Tryz.laidOut,An4,Ami,Amh,Amg,Aov,Aou,Amf,An2,Amd,Amc,Ame,An3]
 kernel_rfl
theorem lockOpens_holds:Rows.LockOpensSaid:=
 OpenClaim.holds_of_wide 3 Tryz.f3 I I I I I I I ⟨I,I,I,I,I⟩ I I I I I jFn func3 Aot
  (Kf tqK) (by unfold Func.isWrapper;rw[Ar (Xn tqK)];exact⟨I,I⟩)
  (λos started H enc _=>IN os started H enc)
end Go.Proofs.YtjofafbkkpdgbaaGreat
