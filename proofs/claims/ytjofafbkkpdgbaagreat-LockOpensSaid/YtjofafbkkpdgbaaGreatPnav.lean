/- A part of the proof of LockOpens: rules and contracts. No condition. -/
import Derived.Test.YtjofafbkkpdgbaaGreatPnat
import Derived.Test.YtjofafbkkpdgbaaGreatPnau
import Derived.Test.YtjofafbkkpdgbaaGreatRows
set_option maxRecDepth 100000
set_option maxHeartbeats 4000000
set_option linter.all false
namespace Go.Proofs.YtjofafbkkpdgbaaGreat
open Go.Proofs.Tryz
open Go.RowKit Go.Shelf
theorem KQ:Ig.small:=⟨Sz,by simp[Ig],by simp[Ig],by simp[Ig]⟩
theorem WK (pl:Plc) (tree:Bool) (c:Ctr):(Sr pl tree c).1.small:=by
 unfold Sr;cases hp:J9 pl
 ·exact KQ
 cases hc:Ho c
 ·exact KQ
 have h1:=Hm hp;have h2:=Uy (n:=pl.n) (l:=pl.l) (s:=pl.s);show (CO pl tree c).small
 unfold CO;generalize (H8 pl.n pl.l pl.s).length=m at h2;cases pl.lock.tmod pl.n == pl.me
 ·refine⟨Sz,?_,?_,?_⟩<;>simp only[By,Cj]<;>omega
 ·refine⟨⟨?_,?_,?_⟩,?_,?_,?_⟩<;>simp only[Ci,Nq,Cj,Ep]<;>omega
theorem Aaj (pl:Plc) (x:Lck) (p:LckS) (tree:Bool) (c:Ctr):Cm prog 3 [.agg (O8 pl++Jd x p).toArray,.bool tree,.agg (Ke c).toArray] [] (C7 x p) (Bd (.bool true)):=by
 have hF:=An1 x p;have hW:=Ank;refine tqm [.g ((O8 pl++Jd x p).map SV.v),.o (.v (.bool tree)),.g ((Ke c).map SV.v)] func3 ntmps3 λ_ _=>?_;refine tqc I5 (λ_=>hF) ?_;cases hf:Tb x
 ·refine tqc I5 (λ_=>hW) ?_;exact tqE
 have hx:=Ac1 hf;have hO:=Aaq pl tree c;have hR:=Ae3 pl tree c;have hos:=WK pl tree c;have hCk:=WH pl x p hx;have hSe:=SW pl x p hx;have hRe:=λp1=>Abh pl x p1 hx;obtain⟨hs1,hs2,hs3⟩:=Ah7 (pl:=pl) hx;generalize Sr pl tree c=r1 at hO hR hos;generalize Qe pl x=r2 at hSe hRe hs1 hs2 hs3;obtain⟨o1,z1⟩:=r1;obtain⟨o2,ys,z2⟩:=r2;dsimp only at hos hs1 hs2 hs3;refine Aj [] [] I7 (λ_=>hO) ?_;rintro e cs F1 _ ⟨p1,rfl,rfl⟩;refine Aj [] [] I7 (λ_=>hR) ?_;rintro e cs F1 _ ⟨p2,rfl,rfl⟩;refine Aj [] [] I7 (λ_=>HK x p hx) (hF0:=λf hf=>Ch _ (Ch _ hf)) ?_;rintro e cs F1 _ ⟨p3,rfl,rfl⟩;refine tqc I5 (λ_=>hCk) (hF0:=λf hf=>Ch _ (Ch _ (Ch _ hf))) ?_;refine tqc I5 (λ_=>QW (KR pl x)) ?_;refine Aj [] [] I7 (F0:=C7 x p) (λ_=>hSe) (hF0:=λf hf=>by simp[hf]) ?_;rintro e cs F1 _ ⟨p4,a4,c4,ls,el,rfl,rfl⟩;refine Aj [] [] I7 (F0:=C7 x p3) (λ_=>hRe p3) (hF0:=λf hf=>by simp[hf]) ?_;rintro e cs F1 _ ⟨p5,b5,d5,rs,er,rfl,rfl⟩;dsimp only at el er;have hel:ls.map Prod.fst=rs.map Prod.fst:=el.trans er.symm;have hll:ls.length<=1000000:=by have:=Fb List.length el;rw[Cr] at this;omega
 have hls:∀q∈ls,q.1.tok.small:=λq hq=>hs2 q.1 (by rw[<-el];exact Cd.2 ⟨q,hq,I⟩);refine Aj [] [] I7 (F0:=C7 o1 p1++C7 o1 p2) (λ_=>Xq o1 p1 p2 hos) (hF0:=λf hf=>by rcases B4.1 hf with h|h<;>simp[h]) ?_;rintro e cs F1 _ ⟨rfl,rfl⟩;refine tqc I5 (λ_=>QW z1) ?_;conv=>whnf
 refine P9 tqS ?_;have hRt:=EO pl x p3 hx;have hnE:KR pl x=bif Pe pl x then 0 else 2:=I
 generalize KR pl x=nE at hnE;generalize Pe pl x=bB at hRt hnE;cases bB
 ·rw[By] at hnE;subst hnE;refine Aj [] [] I7 (F0:=C7 x p3) (λ_=>hRt) (hF0:=λf hf=>by simp[hf]) ?_;rintro e cs F1 _ ⟨rfl,rfl⟩;refine B8 (R9 (r:=true) tqK I I I I) ?_;refine Aj [] [] I7 (F0:=C7 o2 p4++C7 o2 p5) (λ_=>Xq o2 p4 p5 hs1) (hF0:=λf hf=>by rcases B4.1 hf with h|h<;>simp[h]) ?_;rintro e cs F1 _ ⟨rfl,rfl⟩;refine tqc I5 (λ_=>EN a4 c4 ls b5 d5 rs hel hls hll) (hF0:=λf hf=>by simp only[Ap,Bw,Ed] at hf;rcases hf with rfl|rfl<;>simp) ?_;refine tqc I5 (λ_=>QW z2) ?_;conv=>whnf
  refine P9 tqS ?_;refine Aj [] [] I7 (F0:=C7 x p++C7 x p3) (λ_=>Xq x p p3 hx) (hF0:=λf hf=>by rcases B4.1 hf with h|h<;>simp[h]) ?_;rintro e cs F1 _ ⟨rfl,rfl⟩;refine tqc I5 (λ_=>hW) ?_;exact tqE
 ·rw[Ci] at hnE;subst hnE;refine Aj [] [] I7 (F0:=C7 x p3) (λ_=>hRt) (hF0:=λf hf=>by simp[hf]) ?_;rintro e cs F1 _ ⟨rfl,rfl⟩;refine B8 (R9 (r:=true) tqK I I I I) ?_;refine Aj [] [] I7 (F0:=C7 o2 p4++C7 o2 p5) (λ_=>Xq o2 p4 p5 hs1) (hF0:=λf hf=>by rcases B4.1 hf with h|h<;>simp[h]) ?_;rintro e cs F1 _ ⟨rfl,rfl⟩;refine tqc I5 (λ_=>EN a4 c4 ls b5 d5 rs hel hls hll) (hF0:=λf hf=>by simp only[Ap,Bw,Ed] at hf;rcases hf with rfl|rfl<;>simp) ?_;refine tqc I5 (λ_=>QW z2) ?_;conv=>whnf
  refine P9 tqS ?_;refine Aj [] [] I7 (F0:=C7 x p++C7 x p3) (λ_=>Xq x p p3 hx) (hF0:=λf hf=>by rcases B4.1 hf with h|h<;>simp[h]) ?_;rintro e cs F1 _ ⟨rfl,rfl⟩;refine tqc I5 (λ_=>hW) ?_;exact tqE
open Go.ChangeShapes Go.WideShapes Go.ChangeAt Go.Joins Go.Deep
theorem RD (b off n:Nat):Addr.add ⟨b,off,none⟩ n=⟨b,off+n,none⟩:=by
 unfold Addr.add;split
 ·rename_i h;subst h;rfl
 ·rfl
variable {n:Nat}
theorem Ahu {α:Type} {i:Nat} {f:Nat->α} {x:α} (h:((List.range n).map f)[i]? =some x):i<n/\x=f i:=by
 simp only[Cq,Dn] at h;obtain⟨j,h1,h2⟩:=h;obtain⟨hj,h3⟩:=Aa.1 h1;simp at h3 hj;exact⟨hj,by rw[<-h2,<-h3]⟩
variable {H:Type} {W:World} {enc:TypeId×Value->H} {x:DataW H×List MemPlace}
theorem Yz {α:Type} [Inhabited α] {P:Program} {t e:TypeId} {fuel:Nat} {v:Value} (en:α->List Value) (k:Nat) (ht:P.underlying t=some (.slice e)) (hk:P.cellsOf e=k) (hpos:0<k) (hlen:∀a,(en a).length=k)
  (hel:∀n cs y,DataW.trod enc P W 0 (λ_=>true) true n e cs=some y->∃z,cs=en z)
  (h:DataW.trod enc P W 0 (λ_=>true) true fuel t [v]=some x):∃xs,Sl en k W v xs:=by
 subst hk;rcases open_slice ht h with ⟨hcs,_⟩|⟨a,len,cap,m,n,D,Pl,hcs,_,hl,_,hm,_,hx⟩
 ·simp only[Q7,and_true] at hcs;subst hcs;exact⟨[],Sl.nil _ _ _⟩
 ·simp only[Q7,and_true] at hcs;subst hcs;simp only[If] at hm;obtain⟨f,hf⟩:=choose_lt (n:=len) (p:=λi z=>W.cells? 0 (a.add (i*P.cellsOf e)) (P.cellsOf e)=some (en z)) (λi hi=>by
   obtain⟨cs',h1,h2⟩:=hx i tqO;obtain⟨z,rfl⟩:=hel _ _ _ h2;exact⟨z,h1⟩)
  refine⟨(List.range len).map f,some a,cap,tqS,⟨by simpa using hl,λh=>by cases h⟩,?_⟩;by_cases h0:len=0
  ·exact .inl (by subst h0;rfl)
  ·right
   obtain⟨b,off,spot⟩:=a;have hb:b<W.heap.size:=by
    have:=World.cells?_block (hf 0 tqO) hpos;simpa [Addr.add] using this
   have hs:spot=none:=by
    have h1:=(World.cells?_some (hf 0 tqO)).2.2 0 hpos;rw[A8 (by rw[hlen];exact hpos)] at h1;have h2:=World.cell?_spot h1;simpa [Addr.add] using h2
   subst hs;have hc:∀i,i<len->∀j u,(en (f i))[j]? =some u->W.cell? ⟨b,off+i*P.cellsOf e+j,none⟩=some u:=λi hi j u hu=>by
    have h1:=(World.cells?_some (hf i hi));have hj:j<P.cellsOf e:=by rw[<-hlen (f i)];exact(Aa.1 hu).1
    have h2:=h1.2.2 j hj;rw[RD,RD,hu] at h2;exact h2
   refine⟨b,off,I,hb,λi z hz j u hu=>?_⟩;obtain⟨hi,rfl⟩:=Ahu hz;exact hc i hi j u hu
theorem Tryz.own:ownKnob prog.godebug=none:=tqK
theorem Tryz.laidOut:laidOutB prog=true:=tqK
theorem Tryz.cellsI:prog.cellsOf 2=1:=tqK
theorem Tryz.cellsN:prog.cellsOf 3=1:=tqK
theorem Tryz.cellsB:prog.cellsOf 4=1:=tqK
theorem Tryz.cellsU:prog.cellsOf 29=1:=tqK
theorem Tryz.cellsMo:prog.cellsOf 65=1:=tqK
theorem Tryz.cellsSt:prog.cellsOf 86=1:=tqK
theorem Tryz.cellsSh:prog.cellsOf 23=3:=tqK
theorem Tryz.cellsCtr:prog.cellsOf 31=3:=tqK
theorem Tryz.cellsSta:prog.cellsOf 74=4:=tqK
theorem Tryz.cellsSlt:prog.cellsOf 88=8:=tqK
theorem Tryz.cellsHd:prog.cellsOf 170=3:=tqK
theorem Tryz.cellsWt:prog.cellsOf 167=5:=tqK
theorem Tryz.cellsTry:prog.cellsOf 104=3:=tqK
theorem Tryz.cellsOwn:prog.cellsOf 35=2:=tqK
theorem Tryz.cellsLI:prog.cellsOf 26=1:=tqK
theorem Tryz.cellsLW:prog.cellsOf 27=1:=tqK
theorem Tryz.cellsLH:prog.cellsOf 28=1:=tqK
theorem Tryz.cellsLS:prog.cellsOf 36=1:=tqK
theorem Tryz.cellsLL:prog.cellsOf 37=1:=tqK
theorem Tryz.cellsLT:prog.cellsOf 38=1:=tqK
theorem Tryz.cellsTok:prog.cellsOf 33=7:=tqK
theorem Tryz.cellsPlc:prog.cellsOf 25=10:=tqK
theorem Tryz.cellsLck:prog.cellsOf 40=15:=tqK
theorem Tryz.cellsAt:prog.cellsOf 42=25:=tqK
variable {cs:List Value}
theorem C6 {P:Program} {w:World} {base:Nat} {spare:Nat->Bool} {held:Bool} {fuel:Nat} {t:TypeId} {fs:Array Field} (ht:P.underlying t=some (.struct fs)) {i:Nat} {f:Field} (hf0:fs.toList[i]? =some f) (h:DataW.trod enc P w base spare held fuel t cs=some x):
  ∃n y,DataW.trod enc P w base spare held n f.type ((cs.drop f.offset).take (P.cellsOf f.type))=some y:=by
 have hf:fs[i]? =some f:=by simpa using hf0
 obtain⟨xs,n,_,_,_,hl,hi⟩:=DataW.trod_struct ht h;have h1:=hi i f hf;have hlt:i<xs.length:=by rw[hl];exact(B5.1 hf).1
 rw[A8 hlt] at h1;exact⟨n,_,h1⟩
theorem Nw {P:Program} {w:World} {base:Nat} {spare:Nat->Bool} {held:Bool} {fuel:Nat} {t:TypeId} {fs:Array Field} (ht:P.underlying t=some (.struct fs)) (h:DataW.trod enc P w base spare held fuel t cs=some x):cs.length=P.cellsOf t:=by
 obtain⟨_,_,_,_,h1,_⟩:=DataW.trod_struct ht h;exact h1
variable {y:DataW H×List MemPlace}
theorem EI (h:DataW.trod enc prog W 0 (λ_=>true) true n 31 cs=some y):∃z:Ctr,cs=Ke z:=by
 have hl:=Nw underlying31 h;rw[Tryz.cellsCtr] at hl
 match cs,hl with
 | [c0,c1,c2],_=>
  obtain⟨n0,y0,h0⟩:=C6 underlying31 (i:=0) I h;simp only[Tryz.cellsI] at h0;obtain⟨x0,e0,_,_⟩:=Cc underlying2 h0;simp at e0;obtain⟨n1,y1,h1⟩:=C6 underlying31 (i:=1) I h;simp only[Tryz.cellsI] at h1;obtain⟨x1,e1,_,_⟩:=Cc underlying2 h1;simp at e1;obtain⟨n2,y2,h2⟩:=C6 underlying31 (i:=2) I h;simp only[Tryz.cellsU] at h2;obtain⟨x2,e2,_,_⟩:=Cc underlying29 h2;simp at e2;subst e0;subst e1;subst e2;exact⟨⟨x0,x1,x2⟩,I⟩
theorem Aed (h:DataW.trod enc prog W 0 (λ_=>true) true n 74 cs=some y):∃z:Sta,cs=Bv z:=by
 have hl:=Nw underlying74 h;rw[Tryz.cellsSta] at hl
 match cs,hl with
 | [c0,c1,c2,c3],_=>
  obtain⟨n0,y0,h0⟩:=C6 underlying74 (i:=0) I h;simp only[Tryz.cellsI] at h0;obtain⟨x0,e0,_,_⟩:=Cc underlying2 h0;simp at e0;obtain⟨n1,y1,h1⟩:=C6 underlying74 (i:=1) I h;simp only[Tryz.cellsB] at h1;obtain⟨x1,e1,_⟩:=U2 underlying4 h1;simp at e1;obtain⟨n2,y2,h2⟩:=C6 underlying74 (i:=2) I h;simp only[Tryz.cellsMo] at h2;obtain⟨x2,e2,_,_⟩:=Cc underlying65 h2;simp at e2;obtain⟨n3,y3,h3⟩:=C6 underlying74 (i:=3) I h;simp only[Tryz.cellsN] at h3;obtain⟨x3,e3,_,_⟩:=Cc underlying3 h3;simp at e3;subst e0;subst e1;subst e2;subst e3;exact⟨⟨x0,x1,x2,x3⟩,I⟩
theorem Aec (h:DataW.trod enc prog W 0 (λ_=>true) true n 88 cs=some y):∃z:Slt,cs=Bm z:=by
 have hl:=Nw underlying88 h;rw[Tryz.cellsSlt] at hl
 match cs,hl with
 | [c0,c1,c2,c3,c4,c5,c6,c7],_=>
  obtain⟨n0,y0,h0⟩:=C6 underlying88 (i:=0) I h;simp only[Tryz.cellsI] at h0;obtain⟨x0,e0,_,_⟩:=Cc underlying2 h0;simp at e0;obtain⟨n1,y1,h1⟩:=C6 underlying88 (i:=1) I h;simp only[Tryz.cellsSt] at h1;obtain⟨x1,e1,_,_⟩:=Cc underlying86 h1;simp at e1;obtain⟨n2,y2,h2⟩:=C6 underlying88 (i:=2) I h;simp only[Tryz.cellsMo] at h2;obtain⟨x2,e2,_,_⟩:=Cc underlying65 h2;simp at e2;obtain⟨n3,y3,h3⟩:=C6 underlying88 (i:=3) I h;simp only[Tryz.cellsN] at h3;obtain⟨x3,e3,_,_⟩:=Cc underlying3 h3;simp at e3;obtain⟨n4,y4,h4⟩:=C6 underlying88 (i:=4) I h;simp only[Tryz.cellsI] at h4;obtain⟨x4,e4,_,_⟩:=Cc underlying2 h4;simp at e4;obtain⟨n5,y5,h5⟩:=C6 underlying88 (i:=5) I h;simp only[Tryz.cellsCtr] at h5;obtain⟨x5,e5⟩:=EI h5;simp[Ke] at e5;subst e0;subst e1;subst e2;subst e3;subst e4;obtain⟨rfl,rfl,rfl⟩:=e5;exact⟨⟨x0,x1,x2,x3,x4,x5⟩,I⟩
theorem Ahg (h:DataW.trod enc prog W 0 (λ_=>true) true n 170 cs=some y):∃z:Hd,cs=hdL z:=by
 have hl:=Nw underlying170 h;rw[Tryz.cellsHd] at hl
 match cs,hl with
 | [c0,c1,c2],_=>
  obtain⟨n0,y0,h0⟩:=C6 underlying170 (i:=0) I h;simp only[Tryz.cellsN] at h0;obtain⟨x0,e0,_,_⟩:=Cc underlying3 h0;simp at e0;obtain⟨n1,y1,h1⟩:=C6 underlying170 (i:=1) I h;simp only[Tryz.cellsI] at h1;obtain⟨x1,e1,_,_⟩:=Cc underlying2 h1;simp at e1;obtain⟨n2,y2,h2⟩:=C6 underlying170 (i:=2) I h;simp only[Tryz.cellsMo] at h2;obtain⟨x2,e2,_,_⟩:=Cc underlying65 h2;simp at e2;subst e0;subst e1;subst e2;exact⟨⟨x0,x1,x2⟩,I⟩
theorem Ahh (h:DataW.trod enc prog W 0 (λ_=>true) true n 167 cs=some y):∃z:Wt,cs=wtL z:=by
 have hl:=Nw underlying167 h;rw[Tryz.cellsWt] at hl
 match cs,hl with
 | [c0,c1,c2,c3,c4],_=>
  obtain⟨n0,y0,h0⟩:=C6 underlying167 (i:=0) I h;simp only[Tryz.cellsN] at h0;obtain⟨x0,e0,_,_⟩:=Cc underlying3 h0;simp at e0;obtain⟨n1,y1,h1⟩:=C6 underlying167 (i:=1) I h;simp only[Tryz.cellsI] at h1;obtain⟨x1,e1,_,_⟩:=Cc underlying2 h1;simp at e1;obtain⟨n2,y2,h2⟩:=C6 underlying167 (i:=2) I h;simp only[Tryz.cellsMo] at h2;obtain⟨x2,e2,_,_⟩:=Cc underlying65 h2;simp at e2;obtain⟨n3,y3,h3⟩:=C6 underlying167 (i:=3) I h;simp only[Tryz.cellsN] at h3;obtain⟨x3,e3,_,_⟩:=Cc underlying3 h3;simp at e3;obtain⟨n4,y4,h4⟩:=C6 underlying167 (i:=4) I h;simp only[Tryz.cellsN] at h4;obtain⟨x4,e4,_,_⟩:=Cc underlying3 h4;simp at e4;subst e0;subst e1;subst e2;subst e3;subst e4;exact⟨⟨x0,x1,x2,x3,x4⟩,I⟩
theorem Aef (h:DataW.trod enc prog W 0 (λ_=>true) true n 104 cs=some y):∃z:Try,cs=Bz z:=by
 have hl:=Nw underlying104 h;rw[Tryz.cellsTry] at hl
 match cs,hl with
 | [c0,c1,c2],_=>
  obtain⟨n0,y0,h0⟩:=C6 underlying104 (i:=0) I h;simp only[Tryz.cellsI] at h0;obtain⟨x0,e0,_,_⟩:=Cc underlying2 h0;simp at e0;obtain⟨n1,y1,h1⟩:=C6 underlying104 (i:=1) I h;simp only[Tryz.cellsI] at h1;obtain⟨x1,e1,_,_⟩:=Cc underlying2 h1;simp at e1;obtain⟨n2,y2,h2⟩:=C6 underlying104 (i:=2) I h;simp only[Tryz.cellsI] at h2;obtain⟨x2,e2,_,_⟩:=Cc underlying2 h2;simp at e2;subst e0;subst e1;subst e2;exact⟨⟨x0,x1,x2⟩,I⟩
theorem Aea (h:DataW.trod enc prog W 0 (λ_=>true) true n 35 cs=some y):∃z:Own,cs=X5 z:=by
 have hl:=Nw underlying35 h;rw[Tryz.cellsOwn] at hl
 match cs,hl with
 | [c0,c1],_=>
  obtain⟨n0,y0,h0⟩:=C6 underlying35 (i:=0) I h;simp only[Tryz.cellsN] at h0;obtain⟨x0,e0,_,_⟩:=Cc underlying3 h0;simp at e0;obtain⟨n1,y1,h1⟩:=C6 underlying35 (i:=1) I h;simp only[Tryz.cellsI] at h1;obtain⟨x1,e1,_,_⟩:=Cc underlying2 h1;simp at e1;subst e0;subst e1;exact⟨⟨x0,x1⟩,I⟩
theorem WL (h:DataW.trod enc prog W 0 (λ_=>true) true n 23 cs=some y):∃n l s:Int,cs=[.int .i64 n,.int .i64 l,.int .i64 s]:=by
 have hl:=Nw underlying23 h;rw[Tryz.cellsSh] at hl
 match cs,hl with
 | [c0,c1,c2],_=>
  obtain⟨n0,y0,h0⟩:=C6 underlying23 (i:=0) I h;simp only[Tryz.cellsN] at h0;obtain⟨x0,e0,_,_⟩:=Cc underlying3 h0;simp at e0;obtain⟨n1,y1,h1⟩:=C6 underlying23 (i:=1) I h;simp only[Tryz.cellsN] at h1;obtain⟨x1,e1,_,_⟩:=Cc underlying3 h1;simp at e1;obtain⟨n2,y2,h2⟩:=C6 underlying23 (i:=2) I h;simp only[Tryz.cellsN] at h2;obtain⟨x2,e2,_,_⟩:=Cc underlying3 h2;simp at e2;subst e0;subst e1;subst e2;exact⟨x0,x1,x2,I⟩
theorem Aeb (h:DataW.trod enc prog W 0 (λ_=>true) true n 25 cs=some y):∃z:Plc,cs=O8 z:=by
 have hl:=Nw underlying25 h;rw[Tryz.cellsPlc] at hl
 match cs,hl with
 | [c0,c1,c2,c3,c4,c5,c6,c7,c8,c9],_=>
  obtain⟨n0,y0,h0⟩:=C6 underlying25 (i:=0) I h;simp only[Tryz.cellsSh] at h0;obtain⟨nS,lS,sS,e0⟩:=WL h0;simp at e0;obtain⟨n1,y1,h1⟩:=C6 underlying25 (i:=1) I h;simp only[Tryz.cellsN] at h1;obtain⟨x1,e1,_,_⟩:=Cc underlying3 h1;simp at e1;obtain⟨n2,y2,h2⟩:=C6 underlying25 (i:=2) I h;simp only[Tryz.cellsN] at h2;obtain⟨x2,e2,_,_⟩:=Cc underlying3 h2;simp at e2;obtain⟨n3,y3,h3⟩:=C6 underlying25 (i:=3) I h;simp only[Tryz.cellsN] at h3;obtain⟨x3,e3,_,_⟩:=Cc underlying3 h3;simp at e3;obtain⟨n4,y4,h4⟩:=C6 underlying25 (i:=4) I h;simp only[Tryz.cellsI] at h4;obtain⟨x4,e4,_,_⟩:=Cc underlying2 h4;simp at e4;obtain⟨n5,y5,h5⟩:=C6 underlying25 (i:=5) I h;simp only[Tryz.cellsI] at h5;obtain⟨x5,e5,_,_⟩:=Cc underlying2 h5;simp at e5;obtain⟨n6,y6,h6⟩:=C6 underlying25 (i:=6) I h;simp only[Tryz.cellsI] at h6;obtain⟨x6,e6,_,_⟩:=Cc underlying2 h6;simp at e6;obtain⟨n7,y7,h7⟩:=C6 underlying25 (i:=7) I h;simp only[Tryz.cellsB] at h7;obtain⟨x7,e7,_⟩:=U2 underlying4 h7;simp at e7;obtain⟨rfl,rfl,rfl⟩:=e0;subst e1;subst e2;subst e3;subst e4;subst e5;subst e6;subst e7;exact⟨⟨nS,lS,sS,x1,x2,x3,x4,x5,x6,x7⟩,I⟩
theorem Ad8 (h:DataW.trod enc prog W 0 (λ_=>true) true n 2 cs=some y):∃z:Int,cs=Bt z:=by
 obtain⟨x,e,_,_⟩:=Cc underlying2 h;exact⟨x,e⟩
instance:Inhabited Wt:=⟨⟨0,0,0,0,0⟩⟩
instance:Inhabited Hd:=⟨⟨0,0,0⟩⟩
instance:Inhabited Sta:=⟨⟨0,false,0,0⟩⟩
instance:Inhabited Slt:=⟨⟨0,0,0,0,0,⟨0,0,0⟩⟩⟩
instance:Inhabited Try:=⟨⟨0,0,0⟩⟩
theorem Aee (h:DataW.trod enc prog W 0 (λ_=>true) true n 33 cs=some y):∃(x:Tok) (p:Sls),cs=G5 x p/\Sl Bt 1 W (.slice p.a1 x.seq.length p.c1) x.seq/\Sl wtL 5 W (.slice p.a2 x.q.length p.c2) x.q/\Sl hdL 3 W (.slice p.a3 x.hs.length p.c3) x.hs:=by
 have hl:=Nw underlying33 h;rw[Tryz.cellsTok] at hl
 match cs,hl with
 | [c0,c1,c2,c3,c4,c5,c6],_=>
  obtain⟨n0,y0,h0⟩:=C6 underlying33 (i:=0) I h;simp only[Tryz.cellsI] at h0;obtain⟨x0,e0,_,_⟩:=Cc underlying2 h0;simp at e0;obtain⟨n1,y1,h1⟩:=C6 underlying33 (i:=1) I h;simp only[Tryz.cellsLI] at h1;obtain⟨x1,hS1⟩:=Yz Bt 1 underlying26 Tryz.cellsI tqD (λ_=>I) (λn cs y hy=>Ad8 hy) (v:=c1) h1;obtain⟨n2,y2,h2⟩:=C6 underlying33 (i:=2) I h;simp only[Tryz.cellsLW] at h2;obtain⟨x2,hS2⟩:=Yz wtL 5 underlying27 Tryz.cellsWt tqD Ez (λn cs y hy=>Ahh hy) (v:=c2) h2;obtain⟨n3,y3,h3⟩:=C6 underlying33 (i:=3) I h;simp only[Tryz.cellsLH] at h3;obtain⟨x3,hS3⟩:=Yz hdL 3 underlying28 Tryz.cellsHd tqD Dd (λn cs y hy=>Ahg hy) (v:=c3) h3;obtain⟨n4,y4,h4⟩:=C6 underlying33 (i:=4) I h;simp only[Tryz.cellsCtr] at h4;obtain⟨x4,e4⟩:=EI h4;simp[Ke] at e4;subst e0;obtain⟨a1,q1,rfl⟩:=hS1.shape;obtain⟨a2,q2,rfl⟩:=hS2.shape;obtain⟨a3,q3,rfl⟩:=hS3.shape;obtain⟨rfl,rfl,rfl⟩:=e4;exact⟨⟨x0,x1,x2,x3,x4⟩,⟨a1,q1,a2,q2,a3,q3⟩,I,hS1,hS2,hS3⟩
theorem Ad9 (h:DataW.trod enc prog W 0 (λ_=>true) true n 40 cs=some y):∃(x:Lck) (p:LckS),cs=Jd x p/\∀f∈C7 x p,f.h (λb=>b<W.heap.size) W:=by
 have hl:=Nw underlying40 h;rw[Tryz.cellsLck] at hl
 match cs,hl with
 | [c0,c1,c2,c3,c4,c5,c6,c7,c8,c9,c10,c11,c12,c13,c14],_=>
  obtain⟨n0,y0,h0⟩:=C6 underlying40 (i:=0) I h;simp only[Tryz.cellsB] at h0;obtain⟨x0,e0,_⟩:=U2 underlying4 h0;simp at e0;obtain⟨n1,y1,h1⟩:=C6 underlying40 (i:=1) I h;simp only[Tryz.cellsB] at h1;obtain⟨x1,e1,_⟩:=U2 underlying4 h1;simp at e1;obtain⟨n2,y2,h2⟩:=C6 underlying40 (i:=2) I h;simp only[Tryz.cellsTok] at h2;obtain⟨x2,p2,e2,g1,g2,g3⟩:=Aee h2;simp[G5] at e2;obtain⟨n3,y3,h3⟩:=C6 underlying40 (i:=3) I h;simp only[Tryz.cellsI] at h3;obtain⟨x3,e3,_,_⟩:=Cc underlying2 h3;simp at e3;obtain⟨n4,y4,h4⟩:=C6 underlying40 (i:=4) I h;simp only[Tryz.cellsOwn] at h4;obtain⟨x4,e4⟩:=Aea h4;simp[X5] at e4;obtain⟨n5,y5,h5⟩:=C6 underlying40 (i:=5) I h;simp only[Tryz.cellsLS] at h5;obtain⟨x5,hS5⟩:=Yz Bv 4 underlying36 Tryz.cellsSta tqD Hh (λn cs y hy=>Aed hy) (v:=c12) h5;obtain⟨n6,y6,h6⟩:=C6 underlying40 (i:=6) I h;simp only[Tryz.cellsLL] at h6;obtain⟨x6,hS6⟩:=Yz Bm 8 underlying37 Tryz.cellsSlt tqD Dy (λn cs y hy=>Aec hy) (v:=c13) h6;obtain⟨n7,y7,h7⟩:=C6 underlying40 (i:=7) I h;simp only[Tryz.cellsLT] at h7;obtain⟨x7,hS7⟩:=Yz Bz 3 underlying38 Tryz.cellsTry tqD Fh (λn cs y hy=>Aef hy) (v:=c14) h7;subst e0;subst e1;obtain⟨rfl,rfl,rfl,rfl,rfl,rfl,rfl⟩:=e2;subst e3;obtain⟨rfl,rfl⟩:=e4;obtain⟨a5,q5,rfl⟩:=hS5.shape;obtain⟨a6,q6,rfl⟩:=hS6.shape;obtain⟨a7,q7,rfl⟩:=hS7.shape;exact⟨⟨x0,x1,x2,x3,x4,x5,x6,x7⟩,⟨p2,a5,q5,a6,q6,a7,q7⟩,I,λf hf=>by
   simp only[C7,Ap,Bw,Ed] at hf;rcases hf with rfl|rfl|rfl|rfl|rfl|rfl
   ·exact Uz g1
   ·exact Uz g2
   ·exact Uz g3
   ·exact Uz hS5
   ·exact Uz hS6
   ·exact Uz hS7⟩
theorem Aks {base:Nat} {v:Value} {d:DataW H} {p:List MemPlace} (hv:Value.okWide prog W .any base 42 v)
  (h:DataW.Trod enc prog W 0 (λ_=>true) true 42 v d p):∃(pl:Plc) (x:Lck) (q:LckS),v=.agg (O8 pl++Jd x q).toArray/\∀f∈C7 x q,f.h (λb=>b<W.heap.size) W:=by
 obtain⟨cs,rfl,hsz⟩:=okWide_struct underlying42 hv;rw[Tryz.cellsAt] at hsz;obtain⟨l⟩:=cs;have hsz:l.length=25:=by simpa using hsz
 obtain⟨fuel,hf⟩:=h;have h:DataW.trod enc prog W 0 (λ_=>true) true fuel 42 l=some (d,p):=hf;obtain⟨n0,y0,h0⟩:=C6 underlying42 (i:=0) I h;obtain⟨n1,y1,h1⟩:=C6 underlying42 (i:=1) I h;simp only[Tryz.cellsPlc] at h0;simp only[Tryz.cellsLck] at h1;obtain⟨pl,e0⟩:=Aeb h0;obtain⟨x,q,e1,hF⟩:=Ad9 h1;refine⟨pl,x,q,?_,hF⟩;have e:l=l.take 10++(l.drop 10).take 15:=by
  conv=>lhs;rw[<-Gp 10 l]
  congr 1
  rw[Dm];simp[hsz]
 have e0':l.take 10=O8 pl:=by simpa using e0
 rw[e,e0',e1]
end Go.Proofs.YtjofafbkkpdgbaaGreat
