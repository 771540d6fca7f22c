/- A part of the proof of LockOpens: rules and contracts. No condition. -/
import Derived.Test.YtjofafbkkpdgbaaGreatPnad
set_option maxRecDepth 100000
set_option maxHeartbeats 4000000
set_option linter.all false
namespace Go.Proofs.YtjofafbkkpdgbaaGreat
open Go.Proofs.Tryz
open Go.RowKit Go.Shelf
variable {t:TypeId}
theorem L9 {b o:Nat} {cs:List Value} {v:Value} (hv:cs[o]? =some v) (A:Nat->Prop) (w:World) (h:(B9 b cs t).h A w):w.cell? ⟨b,o,none⟩=some v:=(Iu (o:=o) h.2).trans hv
theorem F8 {α:Type} {enc:α->List Value} {k:Nat} (hk:∀x,(enc x).length=k):∀l:List α,(l.flatMap enc).length=l.length*k
 | []=>by simp
 |x::r=>by rw[E1,Az,hk,F8 hk r,Ct,Id,Nk]
variable {α:Type} {xs:List α}
theorem B0 {X:Fx} {o:Oper} {T:TE} {L:LE} {n:Nat} {F:List Fact} {D:DF} {k:KS} {K:KK} {cl:Call} {s src:Operand} {t e:TypeId} {sz by_ d c':Nat} {zs:List Nat} {ao:Option Addr} (tt j:Nat) (enc:α->List Value) (hlen:∀x,(enc x).length=sz) (h1:∀u∈xs.flatMap enc,u.oneCell'=true)
  (h:∀g a c,k ((d,.o (.v (.slice a xs.length c)))::(tt,.o (.v (.slice (some ⟨g,0,none⟩) 0 0)))::T) ((j,.own (.slice a xs.length c) e sz xs.length (xs.flatMap enc))::(j,.own (.slice (some ⟨g,0,none⟩) 0 0) e sz 0 [])::L) n F D)
  (ht:Ah T tt=some (.o (.s j 0 0 0)):=by exact I) (hj:Ah L j=some (.c [] e):=by exact I) (ho:o.op=.call cl:=by exact I) (hcl:cl.callee=.builtin .append:=by exact I) (hargs:cl.args.toList=[s,src]:=by exact I) (htys:cl.argTypes.toList=[t,t]:=by exact I)
  (hs:∀g,evS ((tt,.o (.v (.slice (some ⟨g,0,none⟩) 0 0)))::T) s=some (.o (.v (.slice (some ⟨g,0,none⟩) 0 0))):=by exact λ_=>I) (hsrc:∀g,evS ((tt,.o (.v (.slice (some ⟨g,0,none⟩) 0 0)))::T) src=some (.o (.v (.slice ao xs.length c'))):=by exact λ_=>I)
  (hel:Ah X.tab.el t=some (e,sz):=by exact I) (hze:Ah X.tab.ze e=some zs:=by exact I) (hzl:zs.length=sz:=by exact I) (hby:Ah X.tab.by_ e=some by_:=by exact I) (hdst:o.dst=some d:=by exact I) (hd:Nat.blt d X.k=true:=by exact I)
  (hsz:0<sz:=by decide) (hf:slF enc sz (.slice ao xs.length c') xs∈F:=by simp) (hcap:xs.length*by_<=140737488355328:=by omega) (h63:xs.length<=maxLen:=by simp only[maxLen];omega):OJs X o T L n F D k K:=by
 refine J6 tt sz [] (ht:=ht) (hj:=hj) (hl:=(Nat.zero_mul sz).symm) (hm:=Ax _) λg=>?_;refine Dq j (m':=xs.length) (news:=xs.flatMap enc) (show Ah ((j,.own (.slice (some ⟨g,0,none⟩) 0 0) e sz 0 [])::L) j=some (.own (.slice (some ⟨g,0,none⟩) 0 0) e sz 0 []) by simp[Ah]) ho hcl hargs htys (hs g) hel hze hzl hsz hby hdst hd (Qg (hsrc g) hf hlen) (F8 hlen xs) h1 (by rw[Bl];exact hcap) (by rw[Bl];exact h63) λa c=>?_;rw[Cs,Bl];exact h g a c
variable {enc:α->List Value} {k:Nat}
theorem X8 (hk:∀x,(enc x).length=k) {i:Nat} {x:α} (hx:xs[i]? =some x) (junk:List Value):
  xs.flatMap enc++junk=(xs.take i).flatMap enc++(enc x++((xs.drop (i+1)).flatMap enc++junk))/\((xs.take i).flatMap enc).length=i*k:=by
 obtain⟨hi,h2⟩:=Aa.1 hx;refine⟨?_,by rw[F8 hk,Am,C1 (Nat.le_of_lt hi)]⟩;conv=>lhs;rw[<-Gp i xs,H7 hi,h2]
 simp[Em,Cp]
theorem FZ (hk:∀x,(enc x).length=k) {i:Nat} {x:α} (hx:xs[i]? =some x) (junk:List Value):((xs.flatMap enc++junk).drop (i*k)).take k=enc x/\i*k+k<=(xs.flatMap enc++junk).length:=by
 obtain⟨h1,h2⟩:=X8 hk hx junk;rw[h1];refine⟨?_,by simp only[Az,h2,hk];omega⟩;rw[<-h2,List.drop_left,<-hk x,List.take_left]
theorem CU (hk:∀x,(enc x).length=k) {i j:Nat} {x:α} {u:Value} (hx:xs[i]? =some x) (hu:(enc x)[j]? =some u) (junk:List Value):(xs.flatMap enc++junk)[i*k+j]? =some u:=by
 obtain⟨h1,h2⟩:=X8 hk hx junk;rw[h1,Dp tqO,h2,Lx,Eo (Aa.1 hu).1,hu]
theorem BO (hk:∀x,(enc x).length=k) {i j:Nat} {x x':α} {ys:List Value} (hx:xs[i]? =some x) (hj:j+ys.length<=k) (he:(enc x).take j++ys++(enc x).drop (j+ys.length)=enc x') (junk:List Value):
  (xs.flatMap enc++junk).take (i*k+j)++ys++(xs.flatMap enc++junk).drop (i*k+j+ys.length)=(xs.set i x').flatMap enc++junk:=by
 obtain⟨h1,h2⟩:=X8 hk hx junk;have hx':(xs.set i x')[i]? =some x':=List.getElem?_set_self (Aa.1 hx).1;obtain⟨h3,h4⟩:=X8 hk hx' junk;have e1:(xs.set i x').take i=xs.take i:=List.take_set_of_le (Ak _);have e2:(xs.set i x').drop (i+1)=xs.drop (i+1):=List.drop_set_of_lt (Nl _);rw[h1,h3,e1,e2,<-he];have hl:=hk x;rw[Ub,T9,h2];have t1:((xs.take i).flatMap enc).take (i*k+j)=(xs.take i).flatMap enc:=Dm tqO;have t2:((xs.take i).flatMap enc).drop (i*k+j+ys.length)=[]:=Hy tqO;rw[t1,t2,show i*k+j- i*k=j by omega,show i*k+j+ys.length- i*k=j+ys.length by omega];rw[C0 tqO,Lt tqO];simp[Cp]
section
variable {X:Fx} {o:Oper} {T:TE} {L:LE} {n:Nat} {F:List Fact} {D:DF} {K:KK} {k:KS} {c:Code}
variable {hs:List Value} {j:Nat} {kd:Option Nat} {t:TypeId}
theorem VU {ct:TypeId} {x:Operand} {off:Nat} {v:Value} (ho:o.op=.load t x) (hk:Ah X.tab.kd t=some kd) (hx:evS T x=some (.o (.p j off))) (hL:Ah L j=some (D9 hs ct)) (hp:Jq kd hs off=some v) {u:TV} (hu:∀ρ,u.den ρ=v):Yd X o T L F u:=by
 refine⟨by simp[Cw,ho],λA ρ a w h0=>?_⟩;have hl:w.heap[ρ j]? =some (.cells hs.toArray ct (0,0)):=h0.lo j _ hL;have:=Nt (o:=off) (v:=v) (X.ok.kd _ _ hk) hl hp;have e:(execOp a.eval o).run X.P w=.ok (.value v) w:=by simp[execOp,ho,h0.ev hx,TV.den,SV.den,Instr.loadAt,Instr.sureAddr,this]
 rw[e,hu]
theorem Aa0 {ct:TypeId} {x y:Operand} {off:Nat} {hs' ys:List Value} {u:TV} (ho:o.op=.store t x y) (hd:o.dst=none) (hk:Ah X.tab.kd t=some kd) (hx:evS T x=some (.o (.p j off))) (hy:evS T y=some u) (hu:u.cells=some (ys.map SV.v)) (hv:∀v∈ys,v.oneCell'=true) (hL:Ah L j=some (D9 hs ct))
  (hys:ys.length=kd.getD 1) (hl:off+ys.length<=hs.length) (he:hs.take off++ys++hs.drop (off+ys.length)=hs') (h:k T ((j,D9 hs' ct)::L) n F D):OJs X o T L n F D k K:=by
 subst he;intro Q hQ Φ hΦ a w hr;obtain⟨A,ρ0,h0⟩:=hr.one;have run:∀(L':LE) A ρ,Rel0 X T L' F D A ρ a w->w.heap[ρ j]? =some (.cells hs.toArray ct (0,0))->(execOp a.eval o).run X.P w=.ok .skip (w.setRow (ρ j) (hs.take off++ys++hs.drop (off+ys.length)).toArray):=by
  intro L' A ρ h0 hh;have e1:(a.eval y).cells=ys.toArray:=by
   rw[h0.ev hy,TV.cells_den hu,Ji]
  have:=Qc (o:=off) (xs:=ys) (X.ok.kd _ _ hk) hh e1 hys hl hv;simp[execOp,ho,Instr.storeAt,h0.ev hx,TV.den,SV.den,Instr.sureAddr,this]
 refine Oper.wpIn_of_run (by simp[Cw,ho]) ?_;rw[run L A ρ0 h0 (h0.lo j _ hL)];have hput:a.put o.dst undef=a:=by rw[hd];rfl
 show Φ (a.put o.dst undef) _
 rw[hput];have h1:=(hr.o2c hL).setRow (cells:=(hs.take off++ys++hs.drop (off+ys.length)).map SV.v) (w':=w.setRow (ρ0 j) (hs.take off++ys++hs.drop (off+ys.length)).toArray) (Gs _ _ _) λA' ρ' h'=>?_
 ·refine hΦ _ _ _ _ _ h _ _ ((h1.c2o (Gs _ _ _)).reL λk e' hk=>?_);rw[As] at hk;split at hk
  ·rename_i ek;cases hk;subst ek;exact⟨_,Gs _ _ _,λ_=>I,λ_ h=>h⟩
  ·rename_i ek;exact⟨e',by rw[As,Ar ek,As,Ar ek,As,Ar ek];exact hk,λ_=>I,λ_ h=>h⟩
 ·have e:=run _ A' ρ' h' (by have:=h'.lo j _ (Gs _ _ _);simp only[LC.holds,Ji] at this;exact this);rw[run L A ρ0 h0 (h0.lo j _ hL)] at e;injection e with e1 e2
  rw[e2,Ji]
theorem Zm {α:Type} {enc:α->List Value} {ct:TypeId} {x y:Operand} {off sz i q:Nat} {xs:List α} {z:α} (z':α) {ys junk:List Value} {u:TV} (hz:xs[i]? =some z) (henc:∀x,(enc x).length=sz) (ho:o.op=.store t x y) (hd:o.dst=none) (hk:Ah X.tab.kd t=some kd) (hx:evS T x=some (.o (.p j off))) (hoff:off=i*sz+q) (hy:evS T y=some u) (hu:u.cells=some (ys.map SV.v)) (hv:∀v∈ys,v.oneCell'=true)
  (hL:Ah L j=some (D9 (xs.flatMap enc++junk) ct)) (hys:ys.length=kd.getD 1) (hq:q+ys.length<=sz) (he:(enc z).take q++ys++(enc z).drop (q+ys.length)=enc z') (h:k T ((j,D9 ((xs.set i z').flatMap enc++junk) ct)::L) n F D):OJs X o T L n F D k K:=by
 subst hoff;have hl:=(FZ henc hz junk).2;exact Aa0 ho hd hk hx hy hu hv hL hys tqO (BO henc hz hq he junk) h
theorem Co.cx {P:Program} {g:FuncId} {us:List TV} {args:List Value} {F0:List Fact} {e:TypeId} {sz m:Nat} {xs:List Value} (h:Co P g args F0 (λv=>v) e sz m xs) (hus:∀ρ,us.map (TV.den ρ)=args) (hm:0<m):
  Cx P g us [] F0 (λr Ls F1=>∃cap junk,m<=cap/\r=.inl (.o (.s 0 0 m cap))/\Ls=[.r (xs++junk) e]/\F1=[]):=by
 intro ρ A w _ _ hA hF;rw[hus];refine(h A w hA hF).mono ?_;rintro en w' ⟨v,rfl,hown,hb⟩;obtain⟨a,cp,rfl⟩:=EK hown;have hnew:=(Vq hown).2;obtain⟨g,cur,rfl,h2,h3,_,h5,h6,h7⟩:=Vp (Vq hown).1 hm;have hsplit:cur.toList=xs++cur.toList.drop (m*sz):=by
  conv=>lhs;rw[<-Gp (m*sz) cur.toList,h6]
 refine⟨.inl (.o (.s 0 0 m cp)),[.r (xs++cur.toList.drop (m*sz)) e],[],λ_=>g,λ_=>False,⟨cp,_,h3,I,I,I⟩,⟨Ax _,λj hj=>absurd hj (Nat.not_lt_zero _),Kp.of_below hb,λj _ _=>hnew g I,λi j hi hj _=>?_,λj x hx=>?_,I,I,I,λb h=>h.elim,λb h=>h.elim,λf hf=>absurd hf Bw⟩⟩
 ·simp at hi hj;omega
 ·cases j with
  |zero=>
   simp only[Lw,B7] at hx;subst hx;simp only[XB.den,XB.ty];rw[h2,<-hsplit]
  |succ j=>simp at hx
def roF (ρ:Nm):Nat->List (List Value×TypeId)->List Fact
 |_,[]=>[]
 |j,x::r=>B9 (ρ j) x.1 x.2::roF ρ (j+1) r
theorem YL {ρ:Nm}:∀ {mu:List (List Value×TypeId)} {i:Nat} {f:Fact},f∈roF ρ i mu->∃j x,mu[j]? =some x/\f=B9 (ρ (i+j)) x.1 x.2
 |x::r,i,f,h=>by
  rcases Ap.1 h with rfl|h
  ·exact⟨0,x,I,I⟩
  ·obtain⟨j,y,h1,h2⟩:=YL h;exact⟨j+1,y,by simpa using h1,by rw[h2];congr 2;omega⟩
theorem Anv {P:Program} {g:FuncId} {us:List TV} {mu:List (List Value×TypeId)} {F0:List Fact} {Out:Gx} (h:∀ρ:Nm,Cm P g (us.map (TV.den ρ)) [] (roF ρ 0 mu++F0) Out) (hno:∀e cs F1,Out e cs F1->F1=[]) (hog:∀cs F1,¬Out .outgrown cs F1):
  Cx P g us (mu.map λx=>.r x.1 x.2) F0 (λr Ls F1=>Ls=mu.map (λx=>.r x.1 x.2)/\F1=[]/\((∃v,r=.inl (.o (.v v))/\Out (.returned v) [] [])\/∃ch,r=.inr ch/\Out (.panicked ch) [] [])):=by
 intro ρ A w hinj hmu hA hF;have hat:∀j x,mu[j]? =some x->w.heap[ρ j]? =some (.cells x.1.toArray x.2 (0,0))/\¬A (ρ j):=λj x hx=>hmu j (.r x.1 x.2) (by simp[hx]);have hlen:(mu.map λx=>XB.r x.1 x.2).length=mu.length:=by simp
 have hCm:=h ρ (λb=>A b\/∃j,j<mu.length/\ρ j=b) w tqS tqS (by
   rintro b (hb|⟨j,hj,rfl⟩)
   ·exact hA b hb
   ·exact Dr (hat j _ (A8 hj)).1) (by
   intro f hf;rcases B4.1 hf with hf|hf
   ·obtain⟨j,x,hx,rfl⟩:=YL hf;rw[Bl];exact⟨.inr ⟨j,(Aa.1 hx).1,I⟩,(hat j x hx).1⟩
   ·exact f.ok (λ_ h=>.inl h) (λ_ _=>I) (Grow.refl _) (hF f hf))
 refine hCm.mono ?_;rintro e w' ⟨cs,F1,hout,hkp,hcl,_,A',_⟩;have hc0:cs=[]:=by simpa using hcl
 subst hc0;obtain rfl:=hno _ _ _ hout;have kp:Kp ((List.range (mu.map λx=>XB.r x.1 x.2).length).map ρ) w w':=⟨hkp.os,hkp.tape,hkp.output,hkp.size,λb hb _=>hkp.keep b hb tqS⟩;have post:∀r,ltX (mu.map λx=>XB.r x.1 x.2).length r=true->e=ZR ρ r->PostX ρ (mu.map λx=>XB.r x.1 x.2).length w A r (mu.map λx=>.r x.1 x.2) [] ρ (λ_=>False) e w':=λr hl he=>
  ⟨Ak _,λ_ _=>I,kp,λj h1 h2=>by omega,hinj,λj x hx=>by
   simp only[Cq,Dn] at hx;obtain⟨y,hy,rfl⟩:=hx;have hb:=(hat j y hy).1;rw[hkp.keep _ (Dr hb) tqS];exact hb,by simp[XB.lt],hl,he,λb h=>h.elim,λb h=>h.elim,λf hf=>absurd hf Bw⟩
 cases e with
 |returned v=>exact⟨.inl (.o (.v v)),_,_,ρ,_,⟨I,I,.inl ⟨v,I,hout⟩⟩,post _ I I⟩
 |panicked ch=>exact⟨.inr ch,_,_,ρ,_,⟨I,I,.inr ⟨ch,I,hout⟩⟩,post _ I I⟩
 |outgrown=>exact(hog _ _ hout).elim
def PV.sub (j g:Nat):PV->PV
 | .p k o=>bif Nat.beq k j then .v (.pointer (some ⟨g,o,none⟩)) else .p k o
 | .v x=>.v x
def SV.sub (j g:Nat):SV->SV
 | .p k o=>bif Nat.beq k j then .v (.pointer (some ⟨g,o,none⟩)) else .p k o
 | .s k o l c=>bif Nat.beq k j then .v (.slice (some ⟨g,o,none⟩) l c) else .s k o l c
 | .f fn fi ca=>.f fn (fi.map (PV.sub j g)) (ca.map (PV.sub j g))
 | .v x=>.v x
def TV.sub (j g:Nat):TV->TV
 | .o x=>.o (x.sub j g)
 | .t xs=>.t (xs.map (SV.sub j g))
 | .g xs=>.g (xs.map (SV.sub j g))
def LC.sub (j g:Nat):LC->LC
 | .c cs t=>.c (cs.map (SV.sub j g)) t
 |e=>e
variable {g:Nat} {ρ:Nm}
theorem PV.sub_den (h:ρ j=g) (x:PV):(x.sub j g).den ρ=x.den ρ:=by
 cases x with
 |v x=>rfl
 |p k o=>
  cases hk:Nat.beq k j
  ·simp only[PV.sub,hk,By]
  ·simp only[PV.sub,hk,Ci];have:=Bq hk;subst this;simp only[PV.den,h]
theorem SV.sub_den (h:ρ j=g) (x:SV):(x.sub j g).den ρ=x.den ρ:=by
 cases x with
 |v x=>rfl
 |p k o=>
  cases hk:Nat.beq k j
  ·simp only[SV.sub,hk,By]
  ·simp only[SV.sub,hk,Ci];have:=Bq hk;subst this;simp only[SV.den,h]
 |s k o l c=>
  cases hk:Nat.beq k j
  ·simp only[SV.sub,hk,By]
  ·simp only[SV.sub,hk,Ci];have:=Bq hk;subst this;simp only[SV.den,h]
 |f fn fi ca=>
  have e:∀l:List PV,(l.map (PV.sub j g)).map (PV.den ρ)=l.map (PV.den ρ):=λl=>by
   rw[Fp];exact Gv λp _=>PV.sub_den h p
  simp only[SV.sub,SV.den,e]
theorem IF (h:ρ j=g) (xs:List SV):C4 ρ (xs.map (SV.sub j g))=C4 ρ xs:=by
 simp only[C4,Fp];exact Gv λp _=>SV.sub_den h p
theorem TV.sub_den (h:ρ j=g) (x:TV):(x.sub j g).den ρ=x.den ρ:=by
 cases x with
 |o x=>exact SV.sub_den h x
 |t xs=>simp only[TV.sub,TV.den,IF h]
 |g xs=>simp only[TV.sub,TV.den,IF h]
theorem LC.sub_holds {k:Nat} {w:World} (h:ρ j=g) (x:LC):(x.sub j g).holds ρ k w↔x.holds ρ k w:=by
 cases x with
 |c cs t=>simp only[LC.sub,LC.holds,IF h]
 |_=>exact Iff.rfl
theorem LC.sub_blk {k:Nat} (x:LC):(x.sub j g).blk ρ k=x.blk ρ k:=by cases x<;>rfl
def AN (j g:Nat):TE->TE
 | []=>[]
 |(t,u)::r=>(t,u.sub j g)::AN j g r
theorem LX {j g t:Nat}:∀ {T:TE},Ah (AN j g T) t=(Ah T t).map (TV.sub j g)
 | []=>rfl
 |(q,u)::r=>by
  rw[AN,As,As];split
  ·rfl
  ·exact LX
def Yn (j g:Nat):LE->LE
 | []=>[]
 |(t,u)::r=>(t,u.sub j g)::Yn j g r
theorem Yo {j g t:Nat}:∀ {L:LE},Ah (Yn j g L) t=(Ah L t).map (LC.sub j g)
 | []=>rfl
 |(q,u)::r=>by
  rw[Yn,As,As];split
  ·rfl
  ·exact Yo
def Xm (L:LE):Nat->Bool
 |0=>true
 |i+1=>(match Ah L i with|some (.c _ _)=>true|some (.obj _)=>true|_=>false)&&Xm L i
theorem OX {L:LE}:∀ {m i:Nat},Xm L m=true->i<m->∃e,Ah L i=some e/\∀ρ,e.blk ρ i=some (ρ i)
 |m+1,i,h,hi=>by
  unfold Xm at h;simp only[Ad] at h;rcases Bg.1 hi with hi|rfl
  ·exact OX h.2 hi
  ·have h1:=h.1;split at h1
   ·rename_i cs t e;exact⟨_,e,λ_=>I⟩
   ·rename_i ob e;exact⟨_,e,λ_=>I⟩
   ·cases h1
theorem Rel.sealN {a:Act} {w:World} (h:Rel X T L n F D a w) (hM:X.M=X.N) (hC:Xm L X.N.length=true) (hj:Ah L j=some (D9 hs t)) (hjm:X.N.length<=j):
  ∃g,Rel X (AN j g T) ((j,.dead)::Yn j g L) n (B9 g hs t::F) D a w:=by
 obtain⟨hkb,ρ0,A,h0⟩:=h;have hb0:=h0 ρ0 λ_ _=>I;refine⟨ρ0 j,λk e hk=>?_,ρ0,λb=>A b\/b=ρ0 j,λρ hρ=>?_⟩
 ·rw[As] at hk;split at hk
  ·rename_i ek;rw[ek];exact hkb _ _ hj
  ·rw[Yo,Dn] at hk;obtain⟨e0,he,_⟩:=hk;exact hkb k e0 he
 have h1:=h0 ρ hρ;have hρj:ρ j=ρ0 j:=hρ j (hkb _ _ hj);have bl:∀k e b,Ah ((j,LC.dead)::Yn j (ρ0 j) L) k=some e->e.blk ρ k=some b->k≠j/\∃e0,Ah L k=some e0/\e0.blk ρ k=some b:=by
  intro k e b hk hb;rw[As] at hk;split at hk
  ·cases hk;simp[LC.blk] at hb
  ·rename_i ek;rw[Yo,Dn] at hk;obtain⟨e0,he,rfl⟩:=hk;rw[LC.sub_blk] at hb;exact⟨ek,e0,he,hb⟩
 refine⟨⟨λt x hx=>?_,λk e hk=>?_,λf hf=>?_⟩,h1.sz,h1.df,h1.kp,λk e b hk hb=>?_,λk1 k2 e1 e2 b hk1 hk2 hb1 hb2=>?_,?_,?_,h1.mb⟩
 ·rw[LX,Dn] at hx;obtain⟨y,hy,rfl⟩:=hx;rw[TV.sub_den hρj];exact h1.tm t y hy
 ·rw[As] at hk;split at hk
  ·cases hk;trivial
  ·rw[Yo,Dn] at hk;obtain⟨e0,he,rfl⟩:=hk;exact(LC.sub_holds hρj e0).2 (h1.lo k e0 he)
 ·rcases Ap.1 hf with rfl|hf
  ·exact⟨.inr I,by rw[<-hρj];exact h1.lo j _ hj⟩
  ·exact f.ok (w:=w) (λ_ h=>.inl h) (λ_ _=>I) (Grow.refl _) (h1.a3 f hf)
 ·obtain⟨_,e0,h2,h3⟩:=bl k e b hk hb;exact h1.nw k e0 b h2 h3
 ·obtain⟨_,f1,h2,h3⟩:=bl k1 e1 b hk1 hb1;obtain⟨_,f2,h4,h5⟩:=bl k2 e2 b hk2 hb2;exact h1.ds k1 k2 f1 f2 b h2 h4 h3 h5
 ·rintro b (hb|rfl)
  ·exact h1.a1 b hb
  ·rcases h1.nw j _ (ρ j) hj I with h2|h2
   ·exfalso;rw[hM] at h2;obtain⟨i,hi⟩:=B6.1 h2;obtain⟨e,he,hbk⟩:=OX hC (Aa.1 hi).1;have:=h1.ds i j _ _ (ρ j) he hj (by rw[hbk,h1.mb i _ hi]) I;have:=(Aa.1 hi).1;omega
   ·rw[hρj] at h2;exact .inr h2
 ·rintro b (hb|rfl)
  ·refine⟨(h1.a2 b hb).1,λk e hk hbk=>?_⟩;obtain⟨_,e0,h2,h3⟩:=bl k e b hk hbk;exact(h1.a2 b hb).2 k e0 h2 h3
  ·refine⟨LC.lt (h1.lo j _ hj) (by rw[<-hρj];rfl),λk e hk hbk=>?_⟩;obtain⟨hkj,e0,h2,h3⟩:=bl k e _ hk hbk;exact hkj (h1.ds k j _ _ _ h2 hj h3 (by rw[<-hρj];rfl))
theorem Ad1 (j:Nat) (hM:X.M=X.N) (hC:Xm L X.N.length=true) (hj:Ah L j=some (D9 hs t)) (hjm:Nat.ble X.N.length j=true) (h:∀g,OJs X o (AN j g T) ((j,.dead)::Yn j g L) n (B9 g hs t::F) D k K):OJs X o T L n F D k K:=by
 intro Q hQ Φ hΦ a w hr;obtain⟨g,h2⟩:=hr.sealN hM hC hj (Cy hjm);exact h g Q hQ Φ hΦ a w h2
theorem Acu (j:Nat) (hM:X.M=X.N) (hC:Xm L X.N.length=true) (hj:Ah L j=some (D9 hs t)) (hjm:Nat.ble X.N.length j=true) (h:∀g,sx X c (AN j g T) ((j,.dead)::Yn j g L) n (B9 g hs t::F) D K):CJs X c T L n F D K:=by
 intro Q hQ a w hr;obtain⟨g,h2⟩:=hr.sealN hM hC hj (Cy hjm);exact Ht (h g) Q hQ a w h2
theorem Ag9 (j:Nat) {res:List ResultVar} {mu:List MB} {Out:Gx} {u:FrameMode} (hM:X.M=X.N) (hC:Xm L X.N.length=true) (hj:Ah L j=some (D9 hs t)) (hjm:Nat.ble X.N.length j=true) (h:∀g,Lv X res mu Out u (AN j g T) ((j,.dead)::Yn j g L) n (B9 g hs t::F) D):Lv X res mu Out u T L n F D:=by
 intro a w hr;obtain⟨g,h2⟩:=hr.sealN hM hC hj (Cy hjm);exact h g a w h2
theorem KA (j:Nat) {res:List ResultVar} {mu:List MB} {Out:Gx} (hM:X.M=X.N) (hC:Xm L X.N.length=true) (hj:Ah L j=some (D9 hs t)) (hjm:Nat.ble X.N.length j=true) (h:∀g,Xy X res mu Out (AN j g T) ((j,.dead)::Yn j g L) n (B9 g hs t::F) D):Xy X res mu Out T L n F D:=by
 intro a w hr;obtain⟨g,h2⟩:=hr.sealN hM hC hj (Cy hjm);exact h g a w h2
theorem Wj {α:Type} {enc:α->List Value} {k:Nat} {b:Nat} {xs:List α} {junk:List Value} {m cap:Nat} (hm:m=xs.length) (hc:m<=cap) (henc:∀x,(enc x).length=k) {A:Nat->Prop} {w:World} (h:(B9 b (xs.flatMap enc++junk) t).h A w):(slF enc k (.slice (some ⟨b,0,none⟩) m cap) xs).h A w:=by
 subst hm;refine⟨some ⟨b,0,none⟩,cap,I,⟨hc,λh=>by cases h⟩,.inr ⟨b,0,I,h.1,λi x hx j u hu=>?_⟩⟩;rw[Iu h.2,Bl];exact CU henc hx hu junk
end
def Ef (n l s:Int):Bool:=(decide (1<=n)&&decide (n<=64))&&(decide (1<=l)&&decide (l<=8))&&(decide (1<=s)&&decide (s<=4))
theorem In {n l s:Int} (h:Ef n l s=true):(1<=n/\n<=64)/\(1<=l/\l<=8)/\(1<=s/\s<=4):=by
 simpa [Ef,Xh] using h
def inB (n a b:Int):Bool:=decide (a<=n)&&decide (n<=b)
theorem Vu (n a b:Int):Cm prog 236 [.int .i64 n,.int .i64 a,.int .i64 b] [] [] (Bd (.bool (inB n a b))):=by
 refine tqm [.o (.v (.int .i64 n)),.o (.v (.int .i64 a)),.o (.v (.int .i64 b))] func236 ntmps236 λ_ _=>?_;repeat' (first|(refine Al [] I2 λ_=>⟨Bx ?_,rfl⟩;first|(simp[inB, *];done)|(rw[Be];simp[inB];omega))|refine Ai (λ_=>?_) λ_=>?_)
theorem VL (n l s:Int):Cm prog 204 [.agg #[.int .i64 n,.int .i64 l,.int .i64 s]] [] [] (Bd (.bool (Ef n l s))):=by
 refine tqm [.g [.v (.int .i64 n),.v (.int .i64 l),.v (.int .i64 s)]] func204 ntmps204 λ_ _=>?_;have hs:Ef n l s=(inB n 1 64&&inB l 1 8&&inB s 1 4):=I;refine tqc I5 (λ_=>Vu n 1 64) ?_;refine A7 (λh1=>?_) λh1=>?_
 ·refine tqc I5 (λ_=>Vu l 1 8) ?_;refine A7 (λh2=>?_) λh2=>?_
  ·refine tqc I5 (λ_=>Vu s 1 4) ?_;exact Al [] I2 λ_=>⟨Bx (by rw[hs,h1,h2];rfl),I⟩
  ·exact Al [] I2 λ_=>⟨Bx (by rw[hs,h1,h2];rfl),I⟩
 ·exact Al [] I2 λ_=>⟨Bx (by rw[hs,h1];rfl),I⟩
theorem Adk (v:Value):Cm prog 265 [.slice none 0 0,v] [] [] (Bd (.int .i64 (-1))):=by
 refine tqm [.o (.v (.slice none 0 0)),.o (.v v)] func265 ntmps265 λ_ _=>?_;refine Hj 1 ?_;exact tqE
theorem Acv:Cm prog 187 [.slice none 0 0,.func (.func 205) #[] #[]] [] [] (Bd (.bool false)):=by
 refine tqm [.o (.v (.slice none 0 0)),.o (.v (.func (.func 205) #[] #[]))] func187 ntmps187 λ_ _=>?_;refine tqc I5 (λ_=>Adk (.func (.func 205) #[] #[])) ?_;exact tqE
def Nu (n l s:Int):Int:=bif Ef n l s then 0 else 2
theorem RE (n l s:Int):Cm prog 136 [.agg #[.int .i64 n,.int .i64 l,.int .i64 s],.slice none 0 0] [] [] (Bd (.int .i64 (Nu n l s))):=by
 refine tqm [.g [.v (.int .i64 n),.v (.int .i64 l),.v (.int .i64 s)],.o (.v (.slice none 0 0))] func136 ntmps136 λ_ _=>?_;refine Vb 0 I I ?_;have hE:Nu n l s=bif Ef n l s then 0 else 2:=I
 refine tqc I5 (λ_=>VL n l s) ?_;rw[hE];cases hs:Ef n l s
 ·refine⟨I,?_⟩;exact tqE
 refine tqc I5 (λ_=>Acv) ?_;exact tqE
theorem Qz (n l s:Int):Cm prog 65 [.agg #[.int .i64 n,.int .i64 l,.int .i64 s]] [] [] (Bd (.int .i64 (Nu n l s))):=by
 refine tqm [.g [.v (.int .i64 n),.v (.int .i64 l),.v (.int .i64 s)]] func65 ntmps65 λ_ _=>?_;refine tqc I5 (λ_=>RE n l s) ?_;exact tqE
theorem Ss (n l s:Int):Cm prog 70 [.agg #[.int .i64 n,.int .i64 l,.int .i64 s]] [] [] (Bd (.bool (Ef n l s))):=by
 refine tqm [.g [.v (.int .i64 n),.v (.int .i64 l),.v (.int .i64 s)]] func70 ntmps70 λ_ _=>?_;repeat' (first|(refine Al [] I2 λ_=>⟨Bx ?_,rfl⟩;first|(simp[Ef, *];done)|(rw[Be];simp[Ef];omega))|refine Ai (λ_=>?_) λ_=>?_)
theorem Qs (ρ:Nm) (us:List TV) (lb:List Value):Gn ρ [] us (lb.map PV.v)=us.map (TV.den ρ)++lb:=by
 unfold Gn;rw[Fp];have e:lb.map (PV.den ρ ∘ PV.v)=lb:=by rw[show (PV.den ρ ∘ PV.v:Value->Value)=id from I,List.map_id]
 rw[e];rfl
def MY:Nat->Value->Value->Option Bool
 |0,.bool a,.bool b=>some (a == b)
 |n+1,.int k a,.int k' b=>bif (Nat.beq (ikN k) n&&Nat.beq (ikN k') n) then some (a == b) else none
 |_,_,_=>none
def Il:List Nat->List Value->List Value->Option Bool
 | [],[],[]=>some true
 |k::ks,x::xs,y::ys=>match MY k x y,Il ks xs ys with
  |some a,some b=>some (a&&b)
  |_,_=>none
 |_,_,_=>none
theorem CA:∀ {ks r:List Nat} {xs ys:List Value} {q:Bool},Il (ks++r) xs ys=some q->∃a b,Il ks (xs.take ks.length) (ys.take ks.length)=some a/\Il r (xs.drop ks.length) (ys.drop ks.length)=some b/\q=(a&&b)
 | [],r,xs,ys,q,h=>⟨true,q,by simp[Il],by simpa using h,tqS⟩
 |k::ks,r,[],ys,q,h=>by cases h
 |k::ks,r,x::xs,[],q,h=>by cases h
 |k::ks,r,x::xs,y::ys,q,h=>by
  simp only[E2,Il] at h;split at h
  ·rename_i p s hp hs;cases h;obtain⟨a,b,h1,h2,h3⟩:=CA (ks:=ks) hs;refine⟨p&&a,b,?_,by simpa using h2,by rw[h3,Bool.and_assoc]⟩;simp only[Ct,Q2,Il,hp,h1]
  ·cases h
theorem BZ:∀ {ks:List Nat} {xs ys:List Value} {q:Bool},Il ks xs ys=some q->xs.length=ks.length/\ys.length=ks.length
 | [],[],[],_,_=>⟨I,I⟩
 |k::ks,x::xs,y::ys,q,h=>by
  simp only[Il] at h;split at h
  ·rename_i p s hp hs;have:=BZ hs;simp[this]
  ·cases h
def QQ (g:TypeId->Option (List Nat)):List Field->Nat->Option (List Nat)
 | [],_=>some []
 |f::fs,o=>bif (f.name != "_"&&Nat.beq f.offset o) then(match g f.type with
  |some ks=>(match QQ g fs (o+ks.length) with
   |some r=>some (ks++r)
   |none=>none)
  |none=>none) else none
def Mf (P:Program):Nat->TypeId->Option (List Nat)
 |0,_=>none
 |d+1,t=>match P.underlying t,P.info? t with
  |some (.int k),some i=>bif Nat.beq i.size 1 then some [ikN k+1] else none
  |some .bool,some i=>bif Nat.beq i.size 1 then some [0] else none
  |some (.struct fs),some i=>bif P.stoodInHeld t then none else(match QQ (Mf P d) fs.toList 0 with
   |some ks=>bif Nat.beq i.size ks.length then some ks else none
   |none=>none)
  |some (.array len e),some i=>match Mf P d e with
   |some ks=>bif Nat.beq i.size (len*ks.length) then some (List.replicate len ks).flatten else none
   |none=>none
  |_,_=>none
def Pq (P:Program) (t:TypeId):Bool:=match P.underlying t with
 |some (.int _)=>true
 |some .bool=>true
 |_=>false
def mkF (P:Program) (t:TypeId) (xs:List Value):Value:=bif Pq P t then xs.headD undef else .agg xs.toArray
theorem OI {P:Program} {d:Nat} {ks:List Nat} (h:Mf P d t=some ks):(Pq P t=true/\ks.length=1/\tyK P t=some none)\/(Pq P t=false/\tyK P t=some (some ks.length)):=by
 cases d with
 |zero=>cases h
 |succ d=>
  unfold Mf at h;unfold Pq tyK;split at h
  ·rename_i k i hk hi;rw[Ew] at h;split at h
   ·rename_i hs;cases h;rw[Es] at hs;simp[hk,hi,hs]
   ·cases h
  ·rename_i i hk hi;rw[Ew] at h;split at h
   ·rename_i hs;cases h;rw[Es] at hs;simp[hk,hi,hs]
   ·cases h
  ·rename_i fs i hk hi;rw[Ew] at h;split at h
   ·cases h
   ·split at h
    ·rw[Ew] at h;split at h
     ·rename_i hs;cases h;rw[Es] at hs;simp[hk,hi,hs]
     ·cases h
    ·cases h
  ·rename_i len e i hk hi;split at h
   ·rename_i q hq;rw[Ew] at h;split at h
    ·rename_i hs;cases h;rw[Es] at hs;simp[hk,hi,hs]
    ·cases h
   ·cases h
  ·cases h
theorem AF {P:Program} {d:Nat} {ks:List Nat} (h:Mf P d t=some ks) {cs:List Value} {o:Nat} (ho:o+ks.length<=cs.length) (w:World):(part t cs.toArray o).run P w=.ok (mkF P t ((cs.drop o).take ks.length)) w:=by
 rcases OI h with ⟨h1,h3,h2⟩|⟨h1,h2⟩
 ·have hlt:o<cs.length:=by omega
  refine Up h2 ?_ w;simp only[Jq,mkF,h1,Ci,h3];rw[A8 hlt,H7 hlt];rfl
 ·refine Up h2 ?_ w;simp only[Jq,mkF,h1,By,Bi ho]
def V8 (d:Nat) (e:TypeId) (n:Nat) (xs ys:Array Value):List Nat->Sem Bool
 | []=>pure true
 |i::r=>do
  let a<-part e xs (i*n)
  let b<-part e ys (i*n)
  let q<-Op.equalIn d e a b
  if (!q)=true then pure false else V8 d e n xs ys r
theorem GN {P:Program} (w:World) (d:Nat) (t:TypeId) (xs ys:Array Value) {len:Nat} {e:TypeId} {i:TypeInfo} (ht:P.underlying t=some (.array len e)) (hi:P.info? e=some i):
  (Op.equalIn (d+1) t (.agg xs) (.agg ys)).run P w=(V8 d e i.size xs ys (List.range' 0 len)).run P w:=by
 simp only[Op.equalIn,Ba,At ht,An,sizeOf,typeInfo,J2,hi,Bh];rw[Std.Legacy.Range.forIn_eq_forIn_range'];have hsz:(Std.Legacy.Range.size [0:len])=len:=by simp[Std.Legacy.Range.size]
 rw[hsz];simp only;generalize List.range' 0 len=ls;clear ht;induction ls generalizing w with
 |nil=>simp[V8]
 |cons k ls ih=>
  simp only[List.forIn_cons,V8,Ba,Sem.run_ite];generalize (part e xs (k*i.size)).run P w=r1;cases r1 with
  |ok a w1=>
   simp only[An];generalize (part e ys (k*i.size)).run P w1=r2;cases r2 with
   |ok b w2=>
    simp only[An];generalize (Op.equalIn d e a b).run P w2=r3;cases r3 with
    |ok r w3=>
     cases r
     ·simp only[An,Bool.not_false,If,Bh]
     ·simp only[An,Jz,Hu,Mu,Bh];exact ih w3
    |halt x w3=>simp[Result.andThen]
   |halt x w2=>simp[Result.andThen]
  |halt x w1=>simp[Result.andThen]
theorem SB {xs ys:List Value} {r:Bool} (h:Il [k] xs ys=some r):∃x y,xs=[x]/\ys=[y]/\MY k x y=some r:=by
 obtain⟨h1,h2⟩:=BZ h
 match xs,ys,h1,h2 with
 | [x],[y],_,_=>
  refine⟨x,y,I,I,?_⟩;simp only[Il] at h;split at h
  ·rename_i a b ha hb;cases hb;cases h;rw[ha,Tv]
  ·cases h
theorem Vf {P:Program}:∀ {d:Nat} {t:TypeId} {ks:List Nat},Mf P d t=some ks->∀ {xs ys:List Value} {r:Bool},Il ks xs ys=some r->∀ {d':Nat},d<=d'->∀w,(Op.equalIn d' t (mkF P t xs) (mkF P t ys)).run P w=.ok r w
 |d+1,t,ks,h,xs,ys,r,he,d'+1,hd,w=>by
  have hd1:d<=d':=by omega
  have ih:∀ {t:TypeId} {ks:List Nat},Mf P d t=some ks->∀ {xs ys:List Value} {r:Bool},Il ks xs ys=some r->∀w,(Op.equalIn d' t (mkF P t xs) (mkF P t ys)).run P w=.ok r w:=λh1 _ _ _ h2 w=>Vf h1 h2 hd1 w;have h0:=h;unfold Mf at h;split at h
  ·rename_i k i hk hi;rw[Ew] at h;split at h
   ·cases h;obtain⟨x,y,rfl,rfl,hf⟩:=SB he;have hs:Pq P t=true:=by unfold Pq;rw[hk]
    simp only[mkF,hs,Ci,List.headD_cons];unfold MY at hf;split at hf
    ·rename_i h5;cases h5
    ·rename_i n k1 a k2 b h5;rw[Ew] at hf;split at hf
     ·rename_i h6;cases hf;simp only[Ad,Es] at h6;have e1:=FT (h6.1.trans h6.2.symm);subst e1;exact run_equalIn_int w d' t k1 k a b hk
     ·cases hf
    ·cases hf
   ·cases h
  ·rename_i i hk hi;rw[Ew] at h;split at h
   ·cases h;obtain⟨x,y,rfl,rfl,hf⟩:=SB he;have hs:Pq P t=true:=by unfold Pq;rw[hk]
    simp only[mkF,hs,Ci,List.headD_cons];unfold MY at hf;split at hf
    ·rename_i a b h5;cases hf;exact Td w d' t a b hk
    ·rename_i h5;cases h5
    ·cases hf
   ·cases h
  ·rename_i fs i hk hi;rw[Ew] at h;split at h
   ·cases h
   ·rename_i hst;have hst:P.stoodInHeld t=false:=by simpa using hst
    split at h
    ·rename_i ks' hks;rw[Ew] at h;split at h
     ·cases h;have hs:Pq P t=false:=by unfold Pq;rw[hk]
      simp only[mkF,hs,By];have hfo:P.fieldsOf t=fs:=by simp[Program.fieldsOf,hk]
      rw[run_equalIn_struct w d' t _ _ (by rw[hfo];exact hk) hst,hfo];obtain⟨hlx,hly⟩:=BZ he;have key:∀(fl:List Field) (o:Nat) (kr:List Nat) (q:Bool),QQ (Mf P d) fl o=some kr->o+kr.length=ks.length->Il kr (xs.drop o) (ys.drop o)=some q->∀w,(Op.eqFields d' xs.toArray ys.toArray fl).run P w=.ok q w:=by
       intro fl;induction fl with
       |nil=>
        intro o kr q h1 h2 h3 w;cases h1;have:q=true:=by
         simp only[Ep,Eb] at h2;rw[Hy tqO,Hy tqO] at h3;cases h3;rfl
        subst this;simp[Op.eqFields]
       |cons f fl ihf=>
        intro o kr q h1 h2 h3 w;unfold QQ at h1;rw[Ew] at h1;split at h1
        ·rename_i hc;simp only[Ad,bne_iff_ne,ne_eq,Es] at hc;split at h1
         ·rename_i k1 hk1;split at h1
          ·rename_i k2 hk2;cases h1;obtain⟨a,b,g1,g2,rfl⟩:=CA h3;rw[Az] at h2;have p1:=AF hk1 (cs:=xs) (o:=o) tqO;have p2:=AF hk1 (cs:=ys) (o:=o) tqO;simp only[Op.eqFields,ne_eq,hc.1,not_false_eq_true,If,hc.2,Ba,p1,p2,An,ih hk1 g1 w];cases a
           ·simp
           ·simp only[Jz,Hu,Mu,C8];exact ihf (o+k1.length) k2 b hk2 tqO (by rw[Sb,Sb] at g2;exact g2) w
          ·cases h1
         ·cases h1
        ·cases h1
      exact key fs.toList 0 ks r hks tqS (by simpa using he) w
     ·cases h
    ·cases h
  ·rename_i len e i hk hi;split at h
   ·rename_i ke hke;rw[Ew] at h;split at h
    ·cases h;have hs:Pq P t=false:=by unfold Pq;rw[hk]
     simp only[mkF,hs,By];obtain⟨ie,hie,hsz⟩:∃ie,P.info? e=some ie/\ie.size=ke.length:=by
      rcases OI hke with ⟨_,h3,h2⟩|⟨_,h2⟩
      ·obtain⟨_,ie,_,h5,h6,_⟩:=Nx h2;exact⟨ie,h5,by rw[h6,h3];rfl⟩
      ·obtain⟨_,ie,_,h5,h6,_⟩:=Nx h2;exact⟨ie,h5,by rw[h6];rfl⟩
     rw[GN w d' t _ _ hk hie,hsz];obtain⟨hlx,hly⟩:=BZ he;have hfl:∀m:Nat,(List.replicate m ke).flatten.length=m*ke.length:=by intro m;simp
     rw[hfl] at hlx hly;have key:∀(m k:Nat) (q:Bool),k+m=len->Il (List.replicate m ke).flatten (xs.drop (k*ke.length)) (ys.drop (k*ke.length))=some q->∀w,(V8 d' e ke.length xs.toArray ys.toArray (List.range' k m)).run P w=.ok q w:=by
      intro m;induction m with
      |zero=>
       intro k q h1 h3 w;have:q=true:=by
        rw[Hy (by rw[hlx,<-h1];simp),Hy (by rw[hly,<-h1];simp)] at h3;cases h3;rfl
       subst this;simp[V8]
      |succ m ihm=>
       intro k q h1 h3 w;rw[V2,List.flatten_cons] at h3;obtain⟨a,b,g1,g2,rfl⟩:=CA h3;have hb:k*ke.length+ke.length<=len*ke.length:=by
        rw[<-Id];exact D0 _ tqO
       have p1:=AF hke (cs:=xs) (o:=k*ke.length) tqO;have p2:=AF hke (cs:=ys) (o:=k*ke.length) tqO;simp only[List.range'_succ,V8,Ba,p1,p2,An,ih hke g1 w];cases a
       ·simp
       ·simp only[Jz,Hu,Mu,C8];refine ihm (k+1) b tqO ?_ w;rw[Sb,Sb] at g2;rw[Id];exact g2
     exact key len 0 r tqO (by simpa using he) w
    ·cases h
   ·cases h
  ·cases h
section
variable {X:Fx} {T:TE} {L:LE} {n:Nat} {F:List Fact} {D:DF} {K:KK} {k:KS} {o:Oper}
def Ui (P:Program) (t:TypeId):Bool:= !(P.eqGuardType P.depth t)&& !(Pq P t)
theorem Zy {t t2:TypeId} {x y:Operand} {ux uy:TV} {xs ys:List Value} {ks:List Nat} {r:Bool} (ht:Mf X.P 9 t=some ks) (hok:Ui X.P t=true) (ho:o.op=.binOp .eql t x y t2) (hx:evS T x=some ux) (hy:evS T y=some uy) (hu:∀ρ,ux.den ρ=.agg xs.toArray) (hv:∀ρ,uy.den ρ=.agg ys.toArray)
  (hr:Il ks xs ys=some r):Yd X o T L F (.o (.v (.bool r))):=by
 simp only[Ui,Ad,Ei] at hok;have hm:∀zs:List Value,mkF X.P t zs=.agg zs.toArray:=λzs=>by simp[mkF,hok.2]
 refine Pb ho hx hy hu hv (λw=>run_eqGuard_agg w .eql t x y _ _ hok.1) λw=>?_;have:=Vf ht hr (d':=10000) tqD w;rw[hm,hm] at this;rw[run_eql_struct,this];rfl
theorem Ny {t t2:TypeId} {x y:Operand} {ux uy:TV} {xs ys:List Value} {ks:List Nat} {r:Bool} (ht:Mf X.P 9 t=some ks) (hok:Ui X.P t=true) (ho:o.op=.binOp .neq t x y t2) (hx:evS T x=some ux) (hy:evS T y=some uy) (hu:∀ρ,ux.den ρ=.agg xs.toArray) (hv:∀ρ,uy.den ρ=.agg ys.toArray)
  (hr:Il ks xs ys=some r):Yd X o T L F (.o (.v (.bool (!r)))):=by
 simp only[Ui,Ad,Ei] at hok;have hm:∀zs:List Value,mkF X.P t zs=.agg zs.toArray:=λzs=>by simp[mkF,hok.2]
 refine Pb ho hx hy hu hv (λw=>run_eqGuard_agg w .neq t x y _ _ hok.1) λw=>?_;have:=Vf ht hr (d':=10000) tqD w;rw[hm,hm] at this;rw[run_neq_struct,this];rfl
end
end Go.Proofs.YtjofafbkkpdgbaaGreat
namespace Go.Proofs.YtjofafbkkpdgbaaGreat.Ck
open Go.Proofs.Tryz
open Go
inductive Tr (α:Type) where
 |lf
 |nd (x:Option α) (a b c d:Tr α)
section
variable {α β:Type}
noncomputable def Tr.get (t:Tr α):Nat->Option α:=
 Tr.rec (motive:=λ_=>Nat->Option α) (λ_=>none) (λx _ _ _ _ ga gb gc gd k=>
  Nat.rec (motive:=λ_=>Option α) x (λj _=>Nat.rec (motive:=λ_=>Option α) (ga (Nat.div j 4)) (λi _=>Nat.rec (motive:=λ_=>Option α) (gb (Nat.div j 4)) (λi _=>Nat.rec (motive:=λ_=>Option α) (gc (Nat.div j 4)) (λ_ _=>gd (Nat.div j 4)) i) i) (Nat.mod j 4)) k) t
noncomputable def Tr.put1 (z:β) (v:α) (f:Nat):Nat->(Tr α->β)->β:=
 Nat.rec (motive:=λ_=>Nat->(Tr α->β)->β) (λ_ _=>z)
  (λ_ ih k K=>Nat.rec (motive:=λ_=>β) (K (.nd (some v) .lf .lf .lf .lf))
   (λj _=>Nat.rec (motive:=λ_=>β) (ih (Nat.div j 4) λt=>K (.nd none t .lf .lf .lf)) (λi _=>Nat.rec (motive:=λ_=>β) (ih (Nat.div j 4) λt=>K (.nd none .lf t .lf .lf)) (λi _=>Nat.rec (motive:=λ_=>β) (ih (Nat.div j 4) λt=>K (.nd none .lf .lf t .lf)) (λ_ _=>ih (Nat.div j 4) λt=>K (.nd none .lf .lf .lf t)) i) i) (Nat.mod j 4)) k) f
noncomputable def Tr.put (z:β) (v:α) (t:Tr α):Nat->(Tr α->β)->β:=
 Tr.rec (motive:=λ_=>Nat->(Tr α->β)->β) (Tr.put1 z v 40)
  (λx a b c d pa pb pc pd k K=>Nat.rec (motive:=λ_=>β) (K (.nd (some v) a b c d))
   (λj _=>Nat.rec (motive:=λ_=>β) (pa (Nat.div j 4) λt=>K (.nd x t b c d)) (λi _=>Nat.rec (motive:=λ_=>β) (pb (Nat.div j 4) λt=>K (.nd x a t c d)) (λi _=>Nat.rec (motive:=λ_=>β) (pc (Nat.div j 4) λt=>K (.nd x a b t d)) (λ_ _=>pd (Nat.div j 4) λt=>K (.nd x a b c t)) i) i) (Nat.mod j 4)) k) t
structure W (α:Type) where
 f:α
noncomputable def IJ (f:Nat):Nat->W (Tr α->Option α):=
 Nat.rec (motive:=λ_=>Nat->W (Tr α->Option α)) (λk=>⟨λt=>t.get k⟩)
  (λ_ ih k=>Nat.rec (motive:=λ_=>W (Tr α->Option α)) ⟨λt=>Tr.casesOn t none λx _ _ _ _=>x⟩
   (λj _=>Nat.rec (motive:=λ_=>W (Tr α->Option α)) ⟨λt=>Tr.casesOn t none λ_ a _ _ _=>(ih (Nat.div j 4)).f a⟩ (λi _=>Nat.rec (motive:=λ_=>W (Tr α->Option α)) ⟨λt=>Tr.casesOn t none λ_ _ b _ _=>(ih (Nat.div j 4)).f b⟩
    (λi _=>Nat.rec (motive:=λ_=>W (Tr α->Option α)) ⟨λt=>Tr.casesOn t none λ_ _ _ c _=>(ih (Nat.div j 4)).f c⟩ (λ_ _=>⟨λt=>Tr.casesOn t none λ_ _ _ _ d=>(ih (Nat.div j 4)).f d⟩) i) i) (Nat.mod j 4)) k) f
noncomputable def E7 (z:β) (f:Nat):Nat->W (α->Tr α->(Tr α->β)->β):=
 Nat.rec (motive:=λ_=>Nat->W (α->Tr α->(Tr α->β)->β)) (λk=>⟨λv t K=>Tr.put z v t k K⟩)
  (λ_ ih k=>Nat.rec (motive:=λ_=>W (α->Tr α->(Tr α->β)->β)) ⟨λv t K=>Tr.casesOn t (K (.nd (some v) .lf .lf .lf .lf)) λ_ a b c d=>K (.nd (some v) a b c d)⟩
   (λj _=>Nat.rec (motive:=λ_=>W (α->Tr α->(Tr α->β)->β))
    ⟨λv t K=>Tr.casesOn t ((ih (Nat.div j 4)).f v .lf λt=>K (.nd none t .lf .lf .lf)) λx a b c d=>(ih (Nat.div j 4)).f v a λt=>K (.nd x t b c d)⟩ (λi _=>Nat.rec (motive:=λ_=>W (α->Tr α->(Tr α->β)->β))
    ⟨λv t K=>Tr.casesOn t ((ih (Nat.div j 4)).f v .lf λt=>K (.nd none .lf t .lf .lf)) λx a b c d=>(ih (Nat.div j 4)).f v b λt=>K (.nd x a t c d)⟩ (λi _=>Nat.rec (motive:=λ_=>W (α->Tr α->(Tr α->β)->β))
    ⟨λv t K=>Tr.casesOn t ((ih (Nat.div j 4)).f v .lf λt=>K (.nd none .lf .lf t .lf)) λx a b c d=>(ih (Nat.div j 4)).f v c λt=>K (.nd x a b t d)⟩ (λ_ _=>
    ⟨λv t K=>Tr.casesOn t ((ih (Nat.div j 4)).f v .lf λt=>K (.nd none .lf .lf .lf t)) λx a b c d=>(ih (Nat.div j 4)).f v d λt=>K (.nd x a b c t)⟩) i) i) (Nat.mod j 4)) k) f
@[reducible] def sel (b:Bool) (x y:β):β:=match b with|true=>x|false=>y
end
inductive Bk where
 |c (cs:List Value) (t:TypeId) (op:Nat)
 |o (x:Obj)
 |lp (st:LoopState) (T:Tr Value) (m:Nat) (ps:List Tmp) (pre body:Code) (fn:FuncId) (df:Nat) (jump:Option Code)
 |d
structure CH where
 h:Tr Bk
 n:Nat
structure Pc where
 a:List Value
 l:List (Nat×Bk)
 n:Nat
 v:Value
 l':List (Nat×Bk)
 n':Nat
structure Kn where
 fl:FuncId->Option (List Value×TypeId×List Value)
 oc:FuncId->List Pc
def kn0:Kn:=⟨λ_=>none,λ_=>[]⟩
structure Fr where
 T:Tr Value
 m:Nat
 D:List Deferred
 q:Option Nat
inductive Ex where
 |normal
 |exit (id:Nat)
 |goto (l:Nat)
 |ret
 |panic (v:Value)
 |val (v:Value)
section
variable {α β:Type} (P:Program) (z:β)
noncomputable def wrK (vs:List Value):List Value->(List Value->β)->β:=
 List.rec (motive:=λ_=>List Value->(List Value->β)->β) (λcs K=>K cs)
  (λv _ ih cs K=>match v.oneCell',cs with
   |true,_::cs=>ih cs λcs=>K (v::cs)
   |_,_=>z) vs
noncomputable def Sv (vs:List Value) (cs:List Value):Nat->(List Value->β)->β:=
 List.rec (motive:=λ_=>Nat->(List Value->β)->β) (λ_ K=>wrK z vs [] K)
  (λx xs ih k K=>Nat.rec (motive:=λ_=>β) (wrK z vs (x::xs) K) (λj _=>ih j λys=>K (x::ys)) k) cs
noncomputable def tk1 (cs:List Value):Nat->(List Value->β)->β:=
 List.rec (motive:=λ_=>Nat->(List Value->β)->β) (λn K=>Nat.rec (motive:=λ_=>β) (K []) (λ_ _=>z) n)
  (λx _ ih n K=>Nat.rec (motive:=λ_=>β) (K []) (λj _=>ih j λvs=>K (x::vs)) n) cs
noncomputable def AO (cs:List Value) (o n:Nat) (K:List Value->β):β:=
 List.rec (motive:=λ_=>Nat->β) (λ_=>tk1 z [] n K)
  (λx xs ih o=>Nat.rec (motive:=λ_=>β) (tk1 z (x::xs) n K) (λj _=>ih j) o) cs o
noncomputable def ND (cs:List Value):Nat->Option Value:=
 List.rec (motive:=λ_=>Nat->Option Value) (λ_=>none) (λx _ ih k=>Nat.rec (motive:=λ_=>Option Value) (some x) (λj _=>ih j) k) cs
noncomputable def evS (x:Operand):W (Tr Value->Value):=match x with
 | .tmp t=>⟨λT=>Option.casesOn ((IJ 40 t).f T) undef λv=>v⟩
 | .const v=>⟨λ_=>v⟩
 | .global g=>⟨λ_=>.pointer (some ⟨g,0,none⟩)⟩
 | .func f=>⟨λ_=>.func (.func f) #[] #[]⟩
noncomputable def evT (T:Tr Value) (x:Operand):Value:=(evS x).f T
@[reducible] def C2 {γ:Type} (a:Array γ):List γ:=match a with|⟨l⟩=>l
mutual
def plainV:Value->Bool
 | .pointer (some _)=>false
 | .slice (some _) _ _=>false
 | .map (some _)=>false
 | .func (.yield _) _ _=>false
 | .func _ ⟨f⟩ ⟨c⟩=>Vr f&&Vr c
 | .iface _ v=>plainV v
 | .agg ⟨cs⟩=>Vr cs
 | .tuple ⟨vs⟩=>Vr vs
 |_=>true
def Vr:List Value->Bool
 | []=>true
 |v::vs=>plainV v&&Vr vs
end
def C3:Operand->Bool
 | .const v=>plainV v
 | .global _=>false
 |_=>true
def Aa2 (o:Oper):Bool:=o.op.operands.toList.all C3
def Qq (t:TypeId):Option (List Value):=match P.info? t with
 |some i=>match i.zero with
  |some v=>match plainV v&&Nat.beq v.cells.size i.size with
   |true=>some v.cells.toList
   |false=>none
  |none=>none
 |none=>none
def GE (t:TypeId):Option Value:=match P.info? t with
 |some i=>match i.zero with
  |some v=>match plainV v with
   |true=>some v
   |false=>none
  |none=>none
 |none=>none
def FC (t:TypeId):Option IntKind:=match P.underlying t with
 |some (.int k)=>some k
 |_=>none
def tyM (t:TypeId):Option TypeId:=match P.underlying t with
 |some (.map k e)=>match FC P k with
  |some _=>some e
  |none=>none
 |_=>none
def QZ (t:TypeId):Bool:=match P.underlying t with|some .string=>true|_=>false
def VE (t:TypeId):Bool:=match P.underlying t with|some .bool=>true|_=>false
def AP (t:TypeId):Bool:=match P.underlying t with|some (.slice _)=>true|_=>false
def QY (t:TypeId):Bool:=match P.underlying t with|some (.pointer _)=>true|_=>false
def Ajd (t:TypeId):Bool:=match P.underlying t with
 |some (.interface _)=>false
 |some _=>true
 |none=>false
def ME (t:TypeId):Bool:=match P.underlying t with|some (.func _ _ _)=>true|_=>false
noncomputable def KZ (kd:Option Nat) (cs:List Value) (o:Nat) (K:Value->β):β:=
 match kd with
 |none=>match ND cs o with
  |some v=>K v
  |none=>z
 |some n=>AO z cs o n λvs=>K (.agg ⟨vs⟩)
noncomputable def AA (t:TypeId) (x:Value) (H:CH) (K:Value->β):β:=
 match x with
 | .pointer (some ⟨b,o,none⟩)=>match H.h.get b with
  |some (.c cs _ _)=>match tyK P t with
   |some kd=>KZ z kd cs o K
   |none=>z
  |_=>z
 |_=>z
noncomputable def FA (t:TypeId) (x v:Value) (H:CH) (K:CH->β):β:=
 match x with
 | .pointer (some ⟨b,o,none⟩)=>match H.h.get b with
  |some (.c cs ty op)=>match tyK P t with
   |some kd=>match Nat.beq v.cells.size (kd.getD 1)&&Nat.blt 0 v.cells.size with
    |true=>Sv z (C2 v.cells) cs o λcs=>Tr.put z (.c cs ty op) H.h b λh=>K ⟨h,H.n⟩
    |false=>z
   |none=>z
  |_=>z
 |_=>z
noncomputable def Q4 (b:Bk) (H:CH) (K:Nat->CH->β):β:=
 Tr.put z b H.h H.n λh=>K H.n ⟨h,Nat.succ H.n⟩
noncomputable def DS (s:TypeId) (x:Value) (f:Nat) (K:Value->β):β:=
 match x with
 | .pointer (some ⟨b,o,none⟩)=>match tyF P s with
  |some fs=>match fs[f]? with
   |some p=>K (.pointer (some ⟨b,Nat.add o p.1,none⟩))
   |none=>z
  |none=>z
 |_=>z
noncomputable def BF (s:TypeId) (x:Value) (f:Nat) (K:Value->β):β:=
 match x with
 | .agg ⟨cs⟩=>match tyF P s with
  |some fs=>match fs[f]? with
   |some p=>match tyK P p.2 with
    |some kd=>KZ z kd cs p.1 K
    |none=>z
   |none=>z
  |none=>z
 |_=>z
def Agd (op:BinOp) (a b:Int):Option Bool:=match op with
 | .eql=>some (a == b)
 | .neq=>some (a != b)
 | .lss=>some (decide (a<b))
 | .leq=>some (decide (a<=b))
 | .gtr=>some (decide (a>b))
 | .geq=>some (decide (a>=b))
 |_=>none
def Af5 (op:BinOp) (k:IntKind) (a b:Int):Option Int:=match op with
 | .add=>some (k.wrap (a+b))
 | .sub=>some (k.wrap (a- b))
 | .mul=>some (k.wrap (a*b))
 |_=>none
def ZV (op:BinOp) (c:Bool):Option Bool:=match op with
 | .eql=>some c
 | .neq=>some !c
 |_=>none
def eqV (t:TypeId) (u v:Value):Option Bool:=match u,v with
 | .bool a,.bool b=>match VE P t with
  |true=>some (a == b)
  |false=>none
 | .pointer none,.pointer b=>match QY P t with
  |true=>some b.isNone
  |false=>none
 | .pointer (some _),.pointer none=>match QY P t with
  |true=>some false
  |false=>none
 | .slice none _ _,.slice b _ _=>match AP P t with
  |true=>some b.isNone
  |false=>none
 | .slice (some _) _ _,.slice none _ _=>match AP P t with
  |true=>some false
  |false=>none
 | .nilFunc,.nilFunc=>match ME P t with
  |true=>some true
  |false=>none
 | .nilFunc,.func _ _ _=>match ME P t with
  |true=>some false
  |false=>none
 | .func _ _ _,.nilFunc=>match ME P t with
  |true=>some false
  |false=>none
 | .agg ⟨xs⟩,.agg ⟨ys⟩=>match Ui P t with
  |true=>match Mf P 9 t with
   |some ks=>Il ks xs ys
   |none=>none
  |false=>none
 |_,_=>none
noncomputable def EV (s:Sem Value) (K:Value->β):β:=match s with
 | .pure v=>match v with
  | .int k n=>K (.int k n)
  | .bool b=>K (.bool b)
  | .string b=>K (.string b)
  |_=>z
 |_=>z
noncomputable def RF (op:BinOp) (t:TypeId) (u v:Value) (K:Value->β):β:=
 match u,v with
 | .int k a,.int k' b=>match decide (k=k') with
  |true=>match Agd op a b with
   |some c=>K (.bool c)
   |none=>match Af5 op k a b with
    |some c=>K (.int k c)
    |none=>EV z (binOp op t (.int k a) (.int k' b)) K
  |false=>EV z (binOp op t (.int k a) (.int k' b)) K
 | .string a,.string b=>EV z (binOp op t (.string a) (.string b)) K
 |u,v=>match eqV P t u v with
  |some c=>match ZV op c with
   |some c=>K (.bool c)
   |none=>z
  |none=>z
noncomputable def unK (op:UnOp) (v:Value) (K:Value->β):β:=match op,v with
 | .not,.bool b=>match b with
  |true=>K (.bool false)
  |false=>K (.bool true)
 | .neg,.int k n=>K (.int k (k.wrap (0- n)))
 |_,_=>z
noncomputable def QM (t d:TypeId) (v:Value) (K:Value->β):β:=match v with
 | .int _ n=>match P.underlying t,FC P d with
  |some _,some k=>K (.int k (k.wrap n))
  |_,_=>z
 |_=>z
noncomputable def Zb (t:TypeId) (x i:Value) (K:Value->β):β:=
 match x,i with
 | .slice (some ⟨b,o,_⟩) l _,.int _ (.ofNat j)=>match tyE P t,Nat.blt j l with
  |some p,true=>K (.pointer (some ⟨b,Nat.add o (Nat.mul j p.2),none⟩))
  |_,_=>z
 | .pointer (some ⟨b,o,none⟩),.int _ (.ofNat j)=>match tyA P t with
  |some p=>match Nat.blt j p.1 with
   |true=>K (.pointer (some ⟨b,Nat.add o (Nat.mul j p.2.2),none⟩))
   |false=>z
  |none=>z
 |_,_=>z
noncomputable def DX (t:TypeId) (x i:Value) (K:Value->β):β:=
 match x,i with
 | .agg ⟨cs⟩,.int _ (.ofNat j)=>match tyA P t with
  |some p=>match Nat.blt j p.1,tyK P p.2.1 with
   |true,some kd=>KZ z kd cs (Nat.mul j p.2.2) K
   |_,_=>z
  |none=>z
 | .string s,.int _ (.ofNat j)=>match QZ P t,s[j]? with
  |true,some b=>K (.int .u8 b.toNat)
  |_,_=>z
 |_,_=>z
noncomputable def FP (T:Tr Value) (fs:List (Nat×Nat)) (ps:List (Nat×Operand)):List Value->(List Value->β)->β:=
 List.rec (motive:=λ_=>List Value->(List Value->β)->β) (λcs K=>K cs)
  (λp _ ih cs K=>match fs[p.1]? with
   |some q=>match tyK P q.2 with
    |some kd=>match Nat.beq (evT T p.2).cells.size (kd.getD 1) with
     |true=>Sv z (C2 (evT T p.2).cells) cs q.1 λcs=>ih cs K
     |false=>z
    |none=>z
   |none=>z) ps
noncomputable def Xj (T:Tr Value) (sz:Nat) (ps:List (Nat×Operand)):List Value->(List Value->β)->β:=
 List.rec (motive:=λ_=>List Value->(List Value->β)->β) (λcs K=>K cs)
  (λp _ ih cs K=>match Nat.beq (evT T p.2).cells.size sz with
   |true=>Sv z (C2 (evT T p.2).cells) cs (Nat.mul p.1 sz) λcs=>ih cs K
   |false=>z) ps
def Ge (zs:List Value) (n:Nat):List Value:=(List.replicate n zs).flatten
noncomputable def DN (T:Tr Value) (t:TypeId) (ps:List (Nat×Operand)) (K:Value->β):β:=
 match Qq P t with
 |some zs=>match tyF P t with
  |some fs=>FP P z T fs ps zs λcs=>K (.agg ⟨cs⟩)
  |none=>match tyA P t with
   |some p=>match p.2.2 with
    |sz+1=>Xj z T (sz+1) ps zs λcs=>K (.agg ⟨cs⟩)
    |0=>z
   |none=>z
 |none=>z
noncomputable def FM (T:Tr Value) (t:TypeId) (l:Nat) (ps:List (Nat×Operand)) (H:CH) (K:Value->CH->β):β:=
 match tyE P t with
 |some p=>match Qq P p.1,Nat.ble (Nat.mul l p.2) 16777216,p.2 with
  |some zs,true,sz+1=>Xj z T (sz+1) ps (Ge zs l) λcs=>Q4 z (.c cs p.1 0) H λk H=>K (.slice (some ⟨k,0,none⟩) l l) H
  |_,_,_=>z
 |none=>z
def X7 (k:IntKind) (a:Int):List MapEntry->Nat->Option (Option (Nat×Value))
 | [],_=>some none
 |e::es,i=>match e.key with
  | .int k' b=>match decide (k=k') with
   |true=>match a == b with
    |true=>some (some (i,e.val))
    |false=>X7 k a es (i+1)
   |false=>none
  |_=>none
noncomputable def FV (t:TypeId) (x i:Value) (ok:Bool) (H:CH) (K:Value->β):β:=
 match tyM P t,i with
 |some e,.int k a=>
  let fin (v:Value) (b:Bool):β:=K (match ok with|true=>.tuple #[v,.bool b]|false=>v)
  match x with
  | .map none=>match GE P e with
   |some v=>fin v false
   |none=>z
  | .map (some r)=>match H.h.get r with
   |some (.o (.map ⟨es⟩ _))=>match X7 k a es 0 with
    |some (some p)=>fin p.2 true
    |some none=>match GE P e with
     |some v=>fin v false
     |none=>z
    |none=>z
   |_=>z
  |_=>z
 |_,_=>z
noncomputable def BI (t:TypeId) (x i v:Value) (H:CH) (K:CH->β):β:=
 match tyM P t,i,x with
 |some _,.int k a,.map (some r)=>match H.h.get r with
  |some (.o (.map ⟨es⟩ n))=>match X7 k a es 0 with
   |some (some p)=>Tr.put z (.o (.map ((⟨es⟩:Array MapEntry).modify p.1 λe=> {e with key:=i,val:=v}) n)) H.h r λh=>K ⟨h,H.n⟩
   |some none=>Tr.put z (.o (.map ⟨es++[{key:=i,val:=v,born:=n}]⟩ (n+1))) H.h r λh=>K ⟨h,H.n⟩
   |none=>z
  |_=>z
 |_,_,_=>z
noncomputable def TB (vs:List Value) (e:TypeId) (sz need:Nat) (H:CH) (K:Value->CH->β):β:=
 Q4 z (.c vs e sz) H λk H=>K (.slice (some ⟨k,0,none⟩) need need) H
noncomputable def Acn (b o:Nat) (sp:Option Nat) (l c:Nat) (vs:List Value) (m:Nat) (e:TypeId) (sz:Nat) (H:CH) (K:Value->CH->β):β:=
 match H.h.get b with
 |some (.c cs ty op)=>match Nat.ble (Nat.add l m) c with
  |true=>Sv z vs cs (Nat.add o (Nat.mul l sz)) λcs=>Tr.put z (.c cs ty op) H.h b λh=>K (.slice (some ⟨b,o,sp⟩) (Nat.add l m) c) ⟨h,H.n⟩
  |false=>AO z cs o (Nat.mul l sz) λus=>
   match Nat.beq op 0||(Nat.beq op sz&&(sp.isSome||Nat.blt (Nat.add o (Nat.mul c sz)) cs.length)) with
   |true=>TB z (us++vs) e sz (Nat.add l m) H K
   |false=>match Nat.beq op sz&&(Nat.beq ty e&&(sp.isNone&&Nat.beq (Nat.add o (Nat.mul c sz)) cs.length)) with
    |true=>match vs.all (·.oneCell') with
     |true=>Tr.put z .d H.h b λh=>TB z (us++vs) e sz (Nat.add l m) ⟨h,H.n⟩ K
     |false=>z
    |false=>z
 |_=>z
noncomputable def MU (s:Value) (vs:List Value) (m:Nat) (e:TypeId) (sz:Nat) (H:CH) (K:Value->CH->β):β:=
 match s with
 | .slice none 0 0=>match m with
  |0=>K s H
  |m=>match Nat.ble m 1000000 with
   |true=>TB z vs e sz m H K
   |false=>z
 | .slice (some ⟨b,o,sp⟩) l c=>match m with
  |0=>match Nat.ble l c with
   |true=>K s H
   |false=>z
  |m=>match Nat.ble (Nat.add l m) 1000000 with
   |true=>Acn z b o sp l c vs m e sz H K
   |false=>z
 |_=>z
noncomputable def DU (x:Value) (m sz:Nat) (H:CH) (K:List Value->β):β:=
 match m with
 |0=>K []
 |m=>match x with
  | .slice (some ⟨b,o,_⟩) _ _=>match H.h.get b with
   |some (.c cs _ _)=>AO z cs o (Nat.mul m sz) K
   |_=>z
  |_=>z
def NV (t:TypeId):Option (List Value):=match tyY P t with
 |some y=>match Nat.ble y 65536 with
  |true=>Qq P t
  |false=>none
 |none=>none
noncomputable def FL (ts:List TypeId) (s x:Value) (H:CH) (K:Value->CH->β):β:=
 match ts with
 | [t,u]=>match tyE P t with
  |some p=>match NV P p.1,p.2,x with
   |some _,sz+1,.slice _ m _=>match AP P u with
    |true=>DU z x m (sz+1) H λvs=>MU z s vs m p.1 (sz+1) H K
    |false=>z
   |some zs,sz+1,.int _ (.ofNat m)=>match FC P u,Nat.ble m 65536 with
    |some _,true=>MU z s (Ge zs m) m p.1 (sz+1) H K
    |_,_=>z
   |_,_,_=>z
  |none=>z
 |_=>z
noncomputable def QN (ts:List TypeId) (d x:Value) (H:CH) (K:Value->CH->β):β:=
 match ts,d,x with
 |t::_,.slice a l _,.slice _ m _=>match tyE P t with
  |some p=>let n:=Nat.min m l
   match n with
   |0=>K (.int .i64 0) H
   |n=>DU z x n p.2 H λvs=>match a with
    |some ⟨b,o,_⟩=>match H.h.get b with
     |some (.c cs ty op)=>Sv z vs cs o λcs=>Tr.put z (.c cs ty op) H.h b λh=>K (.int .i64 (.ofNat n)) ⟨h,H.n⟩
     |_=>z
    |_=>z
  |none=>z
 |_,_,_=>z
noncomputable def JU (ts:List TypeId) (x:Value) (H:CH) (K:Value->CH->β):β:=
 match ts,x with
 |t::_,.slice a n _=>match tyE P t with
  |some p=>match n with
   |0=>K undef H
   |n=>match a with
    |none=>K undef H
    |some ⟨b,o,_⟩=>match Qq P p.1,H.h.get b with
     |some zs,some (.c cs ty op)=>Sv z (Ge zs n) cs o λcs=>Tr.put z (.c cs ty op) H.h b λh=>K undef ⟨h,H.n⟩
     |_,_=>z
  |none=>z
 |_,_=>z
noncomputable def ZD (ts:List TypeId) (x:Value) (H:CH) (K:Value->CH->β):β:=
 match ts,x with
 |t::_,.slice none _ c=>match AP P t with
  |true=>K (.int .i64 (.ofNat c)) H
  |false=>z
 |t::_,.slice (some ⟨b,o,sp⟩) _ c=>match AP P t,H.h.get b with
  |true,some (.c cs _ op)=>match op,sp.isSome||Nat.blt (Nat.add o (Nat.mul c op)) cs.length with
   |0,_=>K (.int .i64 (.ofNat c)) H
   |_,true=>K (.int .i64 (.ofNat c)) H
   |_,false=>z
  |_,_=>z
 |_,_=>z
noncomputable def Aao (ts:List TypeId) (x:Value) (H:CH) (K:Value->CH->β):β:=
 match ts,x with
 |t::_,.slice _ l _=>match AP P t with
  |true=>K (.int .i64 (.ofNat l)) H
  |false=>z
 |t::_,.string s=>match QZ P t with
  |true=>K (.int .i64 (.ofNat s.size)) H
  |false=>z
 |t::_,.map (some r)=>match tyM P t,H.h.get r with
  |some _,some (.o (.map ⟨es⟩ _))=>K (.int .i64 (.ofNat es.length)) H
  |_,_=>z
 |_,_=>z
noncomputable def P8 (x:Option Operand) (T:Tr Value) (dflt:Nat) (K:Nat->β):β:=match x with
 |none=>K dflt
 |some x=>match evT T x with
  | .int _ (.ofNat n)=>K n
  |_=>z
def AY (b:Bool) (sp:Option Nat):Option Nat:=match b with
 |true=>some 0
 |false=>sp
noncomputable def LQ (T:Tr Value) (t:TypeId) (x:Value) (lo hi mx:Option Operand) (H:CH) (K:Value->CH->β):β:=
 match x with
 | .slice a len cap=>match tyE P t with
  |some p=>
   P8 z mx T cap λm=>P8 z hi T len λh=>P8 z lo T 0 λl=>
   match Nat.ble m cap&&(Nat.ble h m&&(Nat.ble l h&&(mx.isNone||hi.isSome))),a with
   |true,none=>K (.slice none (Nat.sub h l) (Nat.sub m l)) H
   |true,some ⟨b,o,sp⟩=>match H.h.get b with
    |some (.c cs _ op)=>
     match Nat.beq op 0||(Nat.beq op p.2&&((AY mx.isSome sp).isSome||Nat.blt (Nat.add o (Nat.mul m p.2)) cs.length)),Nat.beq op p.2,Nat.beq m l with
     |true,_,e=>K (.slice (some ⟨b,match e with|true=>o|false=>Nat.add o (Nat.mul l p.2),AY mx.isSome sp⟩) (Nat.sub h l) (Nat.sub m l)) H
     |false,true,false=>K (.slice (some ⟨b,Nat.add o (Nat.mul l p.2),none⟩) (Nat.sub h l) (Nat.sub m l)) H
     |false,true,true=>Q4 z .d H λk H=>K (.slice (some ⟨k,0,none⟩) 0 0) H
     |_,_,_=>z
    |_=>z
   |_,_=>z
  |none=>z
 | .pointer (some ⟨b,o,none⟩)=>match tyA P t with
  |some p=>
   P8 z mx T p.1 λm=>P8 z hi T p.1 λh=>P8 z lo T 0 λl=>
   match Nat.ble m p.1&&(Nat.ble h m&&(Nat.ble l h&&(mx.isNone||hi.isSome))),H.h.get b with
   |true,some (.c _ _ 0)=>K (.slice (some ⟨b,match Nat.beq m l with|true=>o|false=>Nat.add o (Nat.mul l p.2.2),none⟩) (Nat.sub h l) (Nat.sub m l)) H
   |_,_=>z
  |none=>z
 |_=>z
noncomputable def FX (t:TypeId) (l c:Value) (H:CH) (K:Value->CH->β):β:=
 match l,c with
 | .int _ (.ofNat l),.int _ (.ofNat c)=>match tyE P t with
  |some p=>match Qq P p.1,tyY P p.1,Nat.ble l c&&Nat.ble c 65536,p.2 with
   |some zs,some y,true,_+1=>match Nat.ble y 65536 with
    |false=>z
    |true=>Q4 z (.c (Ge zs c) p.1 0) H λk H=>K (.slice (some ⟨k,0,none⟩) l c) H
   |_,_,_,_=>z
  |none=>z
 |_,_=>z
noncomputable def Y5 (b:Builtin) (ts:List TypeId) (args:List Value) (H:CH) (K:Value->CH->β):β:=
 match b,args with
 | .len,[x]=>Aao P z ts x H K
 | .cap,[x]=>ZD P z ts x H K
 | .append,[s,x]=>FL P z ts s x H K
 | .copy,[d,x]=>QN P z ts d x H K
 | .clear,[x]=>JU P z ts x H K
 | .max,[.int k a,.int k' b]=>match decide (k=k') with
  |true=>K (.int k (if b>a then b else a)) H
  |false=>z
 | .min,[.int k a,.int k' b]=>match decide (k=k') with
  |true=>K (.int k (if b<a then b else a)) H
  |false=>z
 |_,_=>z
noncomputable def opV (T:Tr Value) (o:Oper) (H:CH) (K:Value->CH->β):β:=
 match o.op with
 | .move x=>K (evT T x) H
 | .assign x=>K (evT T x) H
 | .pick c a b=>match evT T c with
  | .bool c=>match c with
   |true=>K (evT T a) H
   |false=>K (evT T b) H
  |_=>z
 | .alloc t=>match Qq P t with
  |some cs=>Q4 z (.c cs t 0) H λk H=>K (.pointer (some ⟨k,0,none⟩)) H
  |none=>z
 | .box t x=>Q4 z (.c (C2 (evT T x).cells) t 0) H λk H=>K (.pointer (some ⟨k,0,none⟩)) H
 | .build t ps=>DN P z T t ps.toList λv=>K v H
 | .buildSlice t l ps=>FM P z T t l ps.toList H K
 | .insert t m k x=>BI P z t (evT T m) (evT T k) (evT T x) H λH=>K undef H
 | .mapUpdate t m k x=>BI P z t (evT T m) (evT T k) (evT T x) H λH=>K undef H
 | .load t x=>AA P z t (evT T x) H λv=>K v H
 | .store t x v=>FA P z t (evT T x) (evT T v) H λH=>K undef H
 | .nilCheck x=>match evT T x with
  | .pointer (some a)=>K (.pointer (some a)) H
  | .func (.func f) a b=>K (.func (.func f) a b) H
  |_=>z
 | .binOp op t x y _=>RF P z op t (evT T x) (evT T y) λv=>K v H
 | .unOp op _ x=>unK z op (evT T x) λv=>K v H
 | .convert t d x=>QM P z t d (evT T x) λv=>K v H
 | .makeFunc f a b=>match f with
  | .func f=>K (.func (.func f) (a.map (evT T)) (b.map (evT T))) H
  |_=>z
 | .makeMap t r=>match tyM P t,r with
  |some _,none=>Q4 z (.o (.map #[] 0)) H λk H=>K (.map (some k)) H
  |_,_=>z
 | .makeSlice t l c=>FX P z t (evT T l) (evT T c) H K
 | .slice t x lo hi mx=>LQ P z T t (evT T x) lo hi mx H K
 | .fieldAddr s x f=>DS P z s (evT T x) f λv=>K v H
 | .field t x f=>BF P z t (evT T x) f λv=>K v H
 | .indexAddr t x i=>Zb P z t (evT T x) (evT T i) λv=>K v H
 | .index t x i=>DX P z t (evT T x) (evT T i) λv=>K v H
 | .lookup t x i c=>FV P z t (evT T x) (evT T i) c H λv=>K v H
 | .extract x i=>match evT T x with
  | .tuple ⟨vs⟩=>match vs[i]? with
   |some v=>K v H
   |none=>z
  |_=>z
 | .makeInterface t x=>match Ajd P t with
  |true=>K (.iface t (evT T x)) H
  |false=>z
 | .call c=>match c.callee with
  | .builtin b=>Y5 P z b c.argTypes.toList (C2 (c.args.map (evT T))) H K
  |_=>z
 |_=>z
noncomputable def Iv (d:Option Nat) (v:Value) (F:Fr) (K:Fr->β):β:=
 match d with
 |none=>K F
 |some d=>match F with
  |⟨T,m,D,q⟩=>match Nat.blt d m with
   |true=>(E7 z 40 d).f v T λT=>K ⟨T,m,D,q⟩
   |false=>z
noncomputable def Z7 (vs:List Value):Nat->Tr Value->(Tr Value->β)->β:=
 List.rec (motive:=λ_=>Nat->Tr Value->(Tr Value->β)->β) (λ_ T K=>K T)
  (λv _ ih i T K=>Tr.put z v T i λT=>ih (Nat.succ i) T K) vs
noncomputable def ES (F:Fr) (H:CH) (rs:List ResultVar):(List Value->β)->β:=
 List.rec (motive:=λ_=>(List Value->β)->β) (λK=>K [])
  (λr _ ih K=>match r with
   | .tmp t=>ih λvs=>K (evT F.T (.tmp t)::vs)
   | .cell a t=>AA P z t (evT F.T (.tmp a)) H λv=>ih λvs=>K (v::vs)) rs
inductive Task where
 |fn (f:FuncId) (args:List Value)
 |code (c:Code)
 |lp (b:Code)
 |sc (b c:Code)
 |defers (l:List Deferred)
abbrev E5 (β:Type):=Ex->Fr->CH->β
abbrev Ev (β:Type):=Task->Fr->CH->E5 β->β
variable (cau:FuncId->Bool) (te:TypeId) (kn:Kn) (ih:Ev β)
@[reducible] def noF:Fr:=⟨.lf,0,[],none⟩
noncomputable def Aiz (d:Option Nat) (nx:Fr->CH->β) (F:Fr) (K:E5 β):E5 β:=λe _ H=>match e with
 | .val v=>Iv z d v F λF=>nx F H
 | .panic v=>K (.panic v) F H
 |_=>z
noncomputable def Ww (g:FuncId) (args:List Value) (d:Option Nat) (nx:Fr->CH->β) (F:Fr) (H:CH) (K:E5 β):β:=
 match tyB P g with
 |true=>ih (.fn g args) noF H (Aiz z d nx F K)
 |false=>z
noncomputable def Z6 (ps:List Tmp):List Value->Fr->(Fr->β)->β:=
 List.rec (motive:=λ_=>List Value->Fr->(Fr->β)->β) (λvs F K=>match vs with| []=>K F|_=>z)
  (λp _ ih vs F K=>match vs with
   |v::vs=>Iv z (some p) v F λF=>ih vs F K
   | []=>z) ps
def jSt:Option Code->LoopState
 |none=>.ready
 |some _=>.done
noncomputable def R5 (b:Nat) (j:Option Code) (d:Option Nat) (nx:Fr->CH->β) (F:Fr) (H:CH):β:=
 match H.h.get b with
 |some (.lp .busy T m ps pre body fn df none)=>
  Tr.put z (.lp (jSt j) T m ps pre body fn df j) H.h b λh=>Iv z d (.bool j.isNone) F λF=>nx F ⟨h,H.n⟩
 |_=>z
noncomputable def Zs (b:Nat) (d:Option Nat) (nx:Fr->CH->β) (F:Fr):E5 β:=λe _ H=>match e with
 | .normal=>R5 z b none d nx F H
 | .exit id=>R5 z b (some (.exit id)) d nx F H
 | .goto t=>R5 z b (some (.goto t)) d nx F H
 | .ret=>R5 z b (some .ret) d nx F H
 |_=>z
noncomputable def K7 (b:Nat) (body:Code) (d:Option Nat) (nx:Fr->CH->β) (F:Fr):E5 β:=λe F1 H=>match e,H.h.get b with
 | .normal,some (.lp .ready T m ps pre body1 fn df none)=>Tr.put z (.lp .busy T m ps pre body1 fn df none) H.h b λh=>ih (.code body) F1 ⟨h,H.n⟩ (Zs z b d nx F)
 |_,_=>z
noncomputable def Xp (b:Nat) (args:List Value) (d:Option Nat) (nx:Fr->CH->β) (F:Fr) (H:CH):β:=
 match H.h.get b with
 |some (.lp _ T m ps pre body _ _ _)=>Z6 z ps args ⟨T,m,[],some b⟩ λF1=>ih (.code pre) F1 H (K7 z ih b body d nx F)
 |_=>z
noncomputable def ZL (fn:Fn) (first cap:Array Value) (args:List Value) (d:Option Nat) (nx:Fr->CH->β) (F:Fr) (H:CH):β:=
 match fn,F.q with
 | .func fn,none=>Iv z d undef F λF1=>nx ⟨F1.T,F1.m,{target:=.fn (.func fn) cap,args:=⟨C2 first++args⟩}::F1.D,none⟩ H
 |_,_=>z
noncomputable def VM (f:Value) (args:List Value) (d:Option Nat) (nx:Fr->CH->β) (F:Fr) (H:CH) (K:E5 β):β:=
 match f with
 | .func fn first cap=>match fn with
  | .func g=>Ww P z ih g (C2 first++(args++C2 cap)) d nx F H K
  | .yield b=>match first with
   |⟨[]⟩=>Xp z ih b args d nx F H
   |_=>z
  |_=>z
 |_=>z
noncomputable def RN (f:Value) (args:List Value) (d:Option Nat) (nx:Fr->CH->β) (F:Fr) (H:CH):β:=
 match f with
 | .func fn first cap=>ZL z fn first cap args d nx F H
 |_=>z
def TU (v:Value) (F:Fr) (H:CH) (K:E5 β):β:=match v with
 | .iface t v=>K (.panic (.iface t v)) F H
 |_=>z
abbrev U7 (β:Type):=Ev β->Fr->CH->E5 β->β
noncomputable def evL (T:Tr Value) (xs:List Operand):List Value:=List.rec (motive:=λ_=>List Value) [] (λx _ r=>evT T x::r) xs
noncomputable def opF (o:Oper):W (Tr Value->CH->(Value->CH->β)->β):=match o.op with
 | .move x=>⟨λT H K=>K (evT T x) H⟩
 | .assign x=>⟨λT H K=>K (evT T x) H⟩
 | .load t x=>⟨λT H K=>AA P z t (evT T x) H λv=>K v H⟩
 | .store t x v=>⟨λT H K=>FA P z t (evT T x) (evT T v) H λH=>K undef H⟩
 | .fieldAddr s x f=>⟨λT H K=>DS P z s (evT T x) f λv=>K v H⟩
 | .field t x f=>⟨λT H K=>BF P z t (evT T x) f λv=>K v H⟩
 | .indexAddr t x i=>⟨λT H K=>Zb P z t (evT T x) (evT T i) λv=>K v H⟩
 | .index t x i=>⟨λT H K=>DX P z t (evT T x) (evT T i) λv=>K v H⟩
 | .binOp op t x y _=>⟨λT H K=>RF P z op t (evT T x) (evT T y) λv=>K v H⟩
 | .box t x=>⟨λT H K=>Q4 z (.c (C2 (evT T x).cells) t 0) H λk H=>K (.pointer (some ⟨k,0,none⟩)) H⟩
 | .build t ps=>⟨λT H K=>DN P z T t ps.toList λv=>K v H⟩
 | .call c=>match c.callee with
  | .builtin b=>⟨λT H K=>Y5 P z b c.argTypes.toList (evL T (C2 c.args)) H K⟩
  |_=>⟨λ_ _ _=>z⟩
 |_=>⟨λT H K=>opV P z T o H K⟩
noncomputable def opU (o:Oper) (r:W (U7 β)):W (U7 β):=⟨λih F H K=>(opF P z o).f F.T H λv H=>Iv z o.dst v F λF=>r.f ih F H K⟩
noncomputable def TJ (o:Oper) (nx:Fr->CH->β) (F:Fr) (H:CH) (K:E5 β):β:=
 match o.op with
 | .call c=>match c.callee with
  | .value f=>VM P z ih (evT F.T f) (C2 (c.args.map (evT F.T))) o.dst nx F H K
  |_=>opV P z F.T o H λv H=>Iv z o.dst v F λF=>nx F H
 | .defer c=>match c.callee with
  | .value f=>RN z (evT F.T f) (C2 (c.args.map (evT F.T))) o.dst nx F H
  |_=>z
 | .panic x=>TU z (evT F.T x) F H K
 |_=>opV P z F.T o H λv H=>Iv z o.dst v F λF=>nx F H
noncomputable def NI (o:Oper) (r:W (U7 β)):W (U7 β):=match o.op with
 | .call c=>match c.callee with
  | .value f=>⟨λih F H K=>VM P z ih (evT F.T f) (evL F.T (C2 c.args)) o.dst (λF H=>r.f ih F H K) F H K⟩
  |_=>opU P z o r
 | .defer c=>match c.callee with
  | .value f=>⟨λih F H K=>RN z (evT F.T f) (evL F.T (C2 c.args)) o.dst (λF H=>r.f ih F H K) F H⟩
  |_=>⟨λ_ _ _ _=>z⟩
 | .panic x=>⟨λ_ F H K=>TU z (evT F.T x) F H K⟩
 |_=>opU P z o r
noncomputable def Adf (v:Value) (w:Bool) (d:Option Nat) (u r:W (U7 β)) (F:Fr) (H:CH) (K:E5 β):β:=match v with
 | .bool b=>match b == w with
  |true=>u.f ih F H K
  |false=>Iv z d undef F λF=>r.f ih F H K
 |_=>Iv z d undef F λF=>r.f ih F H K
noncomputable def Ahe (all:Array Oper) (o:Oper) (r:W (U7 β)):W (U7 β):=match Aa2 o with
 |true=>match o.guard with
  |none=>NI P z o r
  |some (j,w)=>match all[j]? with
   |some oj=>match oj.dst with
    |some d=>⟨λih F H K=>Adf z ih (evT F.T (.tmp d)) w o.dst (NI P z o r) r F H K⟩
    |none=>⟨λ_ _ _ _=>z⟩
   |none=>⟨λ_ _ _ _=>z⟩
 |false=>⟨λ_ _ _ _=>z⟩
noncomputable def CP (all:Array Oper) (l:List Oper):W (U7 β):=List.rec (motive:=λ_=>W (U7 β)) ⟨λ_ F H K=>K .normal F H⟩ (λo _ r=>Ahe P z all o r) l
noncomputable def Ah5 (b:W (U7 β)) (K:E5 β):E5 β:=λe F H=>match e with
 | .normal=>b.f ih F H K
 |e=>K e F H
noncomputable def QS (b:Code) (K:E5 β):E5 β:=λe F H=>match e with
 | .normal=>ih (.lp b) F H K
 |e=>K e F H
def Y4 (id:Nat) (K:E5 β):E5 β:=λe F H=>match e with
 | .exit i=>match Nat.beq i id with
  |true=>K .normal F H
  |false=>K (.exit i) F H
 |e=>K e F H
noncomputable def scC (b:Code) (K:E5 β):E5 β:=λe F H=>match e with
 | .goto l=>match findLabel b l with
  |some rest=>ih (.sc b rest) F H K
  |none=>K (.goto l) F H
 |e=>K e F H
noncomputable def scK (b c:Code) (F:Fr) (H:CH) (K:E5 β):β:=ih (.code c) F H (scC ih b K)
noncomputable def UC (j:Option Code) (F1:Fr) (H:CH) (K:E5 β):β:=match j with
 |none=>K .normal F1 H
 |some c=>ih (.code c) F1 H K
noncomputable def Tn (l:Nat) (F1:Fr) (K:E5 β):E5 β:=λe _ H1=>match e,H1.h.get l with
 | .val _,some (.lp st _ _ _ _ _ _ _ j)=>match st with
  | .busy=>z
  |_=>Tr.put z .d H1.h l λh1=>UC ih j F1 ⟨h1,H1.n⟩ K
 |_,_=>z
noncomputable def Wh (g:FuncId) (args:List Value) (l:Nat) (F1:Fr) (H:CH) (K:E5 β):β:=ih (.fn g args) noF H (Tn z ih l F1 K)
noncomputable def BN (f:Operand) (ps:List Tmp) (pre body:Code) (F:Fr) (H:CH) (K:E5 β):β:=
 match C3 f,evT F.T f with
 |true,.func (.func g) first cap=>match tyB P g,F.q with
  |true,none=>
   Tr.put z (.o (.deferred (some []))) H.h H.n λh=>
   Tr.put z (.lp .ready F.T F.m ps pre body g H.n none) h (Nat.succ H.n) λh=>
   Wh z ih g (C2 first++(.func (.yield (Nat.succ H.n)) #[] #[]::C2 cap)) (Nat.succ H.n) ⟨F.T,F.m,{target:=.collected H.n,args:= #[]}::F.D,none⟩ ⟨h,Nat.succ (Nat.succ H.n)⟩ K
  |true,some b=>match H.h.get b with
   |some (.lp _ _ _ _ _ _ _ df _)=>
    Tr.put z (.lp .ready F.T F.m ps pre body g df none) H.h H.n λh=>
    Wh z ih g (C2 first++(.func (.yield H.n) #[] #[]::C2 cap)) H.n F ⟨h,Nat.succ H.n⟩ K
   |_=>z
  |false,_=>z
 |_,_=>z
def AK (vs:List Value):Value:=match vs with
 | [v]=>v
 |vs=>.tuple ⟨vs⟩
noncomputable def Z9 (fn:Func) (F:Fr) (K:E5 β):E5 β:=λ_ _ H=>ES P z F H fn.results.toList λvs=>K (.val (AK vs)) noF H
noncomputable def upC (pe:Nat) (n:Int) (l:List Deferred) (fn:Func) (F:Fr) (K:E5 β):E5 β:=λe _ H=>match e with
 | .val (.tuple ⟨[]⟩)=>match H.h.get pe with
  |some (.c [_] t 0)=>match Nat.beq t te with
   |true=>Tr.put z (.c [.int .i64 n] te 0) H.h pe λh=>ih (.defers l) F ⟨h,H.n⟩ (Z9 P z fn F K)
   |false=>z
  |_=>z
 |_=>z
noncomputable def upK (fn:Func) (F:Fr) (v:Value) (K:E5 β) (l:List Deferred):CH->β:=
 List.rec (motive:=λ_=>CH->β) (λH=>K (.panic v) noF H)
  (λd l next H=>match d.target with
   | .fn (.func g) ⟨[]⟩=>match cau g&&tyB P g,d.args,v with
    |true,⟨[.pointer (some ⟨pe,0,none⟩),.func (.func k) ⟨[]⟩ ⟨lb⟩]⟩,.iface t (.int .i64 n)=>match Nat.beq t te&&tyB P k,H.h.get pe with
     |true,some (.c _ _ 0)=>ih (.fn k lb) noF H (upC P z te ih pe n l fn F K)
     |_,_=>z
    |_,_,_=>z
   | .collected b=>match H.h.get b with
    |some (.o (.deferred (some [])))=>Tr.put z .d H.h b λh=>next ⟨h,H.n⟩
    |_=>z
   |_=>z) l
noncomputable def FR (fn:Func) (K:E5 β):E5 β:=λe F H=>match e with
 | .normal=>ih (.defers F.D) F H (Z9 P z fn F K)
 | .ret=>ih (.defers F.D) F H (Z9 P z fn F K)
 | .panic v=>upK P z cau te ih fn F v K F.D H
 |_=>z
mutual
def Oh:Value->Value->Bool
 | .bool a,.bool b=>a == b
 | .int j a,.int k b=>decide (j=k)&&a == b
 | .string a,.string b=>a.data.toList == b.data.toList
 | .pointer none,.pointer none=>true
 | .pointer (some a),.pointer (some b)=>decide (a=b)
 | .slice none l c,.slice none l' c'=>Nat.beq l l'&&Nat.beq c c'
 | .slice (some a) l c,.slice (some b) l' c'=>decide (a=b)&&(Nat.beq l l'&&Nat.beq c c')
 | .map none,.map none=>true
 | .map (some a),.map (some b)=>Nat.beq a b
 | .func (.func f) ⟨a⟩ ⟨b⟩,.func (.func g) ⟨c⟩ ⟨d⟩=>Nat.beq f g&&(Ro a c&&Ro b d)
 | .nilFunc,.nilFunc=>true
 | .nilIface,.nilIface=>true
 | .agg ⟨a⟩,.agg ⟨b⟩=>Ro a b
 | .tuple ⟨a⟩,.tuple ⟨b⟩=>Ro a b
 |_,_=>false
def Ro:List Value->List Value->Bool
 | [],[]=>true
 |a::xs,b::ys=>Oh a b&&Ro xs ys
 |_,_=>false
end
noncomputable def KD (c0:List Value) (t:TypeId) (c1:List Value) (args:List Value) (H:CH) (K:E5 β):β:=match args with
 | [.pointer (some ⟨k,0,none⟩)]=>match H.h.get k with
  |some (.c cs t' 0)=>match Ro cs c0&&Nat.beq t' t with
   |true=>Tr.put z (.c c1 t 0) H.h k λh=>K (.val (.tuple ⟨[]⟩)) noF ⟨h,H.n⟩
   |false=>z
  |_=>z
 |_=>z
def ZU:List MapEntry->List MapEntry->Bool
 | [],[]=>true
 |a::xs,b::ys=>(Oh a.key b.key&&Oh a.val b.val)&&(Nat.beq a.born b.born&&ZU xs ys)
 |_,_=>false
def ZT:Bk->Bk->Bool
 | .c a t p,.c b u q=>Ro a b&&(Nat.beq t u&&Nat.beq p q)
 | .o (.map ⟨a⟩ n),.o (.map ⟨b⟩ m)=>ZU a b&&Nat.beq n m
 | .d,.d=>true
 |_,_=>false
noncomputable def Ag0 (k:Nat) (b:Bk) (t:Tr Bk):Tr Bk:=Tr.put .lf b t k λt=>t
noncomputable def mkT (l:List (Nat×Bk)):Tr Bk:=List.rec (motive:=λ_=>Tr Bk) .lf (λp _ r=>Ag0 p.1 p.2 r) l
noncomputable def BG (h:Tr Bk) (l:List (Nat×Bk)):Bool:=List.rec (motive:=λ_=>Bool) true (λp _ r=>match h.get p.1 with
 |some b=>match ZT b p.2 with
  |true=>r
  |false=>false
 |none=>false) l
noncomputable def EM (args:List Value) (H:CH) (K:E5 β) (ps:List Pc):β:=List.rec (motive:=λ_=>β) z (λp _ r=>match Ro args p.a&&(Nat.beq H.n p.n&&BG H.h p.l) with
 |true=>K (.val p.v) noF ⟨mkT p.l',p.n'⟩
 |false=>r) ps
noncomputable def fnB (f:FuncId) (args:List Value) (H:CH) (K:E5 β):β:=match P.funcs[f]? with
 |some fn=>match fn.body with
  |some c=>match Nat.ble args.length fn.ntmps with
   |false=>z
   |true=>Z7 z args 0 .lf λT=>ih (.code c) ⟨T,fn.ntmps,[],none⟩ H (FR P z cau te ih fn K)
  |none=>z
 |none=>z
noncomputable def fnK (f:FuncId) (args:List Value) (H:CH) (K:E5 β):β:=match kn.fl f with
 |some p=>KD z p.1 p.2.1 p.2.2 args H K
 |none=>match kn.oc f with
  | []=>fnB P z cau te ih f args H K
  |p::ps=>EM z args H K (p::ps)
noncomputable def FO (l:List Deferred) (F:Fr) (H:CH) (K:E5 β):β:=
 match l with
 | []=>K .normal F H
 |d::l=>match d.target with
  | .fn (.func g) ⟨[]⟩=>match cau g&&tyB P g,d.args with
   |true,⟨[.pointer (some _),.func (.func _) ⟨[]⟩ _]⟩=>ih (.defers l) F H K
   |_,_=>z
  | .collected b=>match H.h.get b with
   |some (.o (.deferred (some [])))=>Tr.put z .d H.h b λh=>ih (.defers l) F ⟨h,H.n⟩ K
   |_=>z
  |_=>z
inductive Kd where
 |q
 |l
 |n
 |e
def Zd (o:Op):Kd:=match o with
 | .move _| .assign _| .pick .. | .build .. | .makeInterface .. | .nilCheck _| .binOp .. | .unOp .. | .convert .. | .makeFunc .. | .fieldAddr .. | .field .. | .indexAddr .. | .index .. | .extract .. =>.q
 | .load .. | .lookup .. | .slice .. =>.l
 | .alloc _| .box .. | .buildSlice .. | .makeMap .. =>.n
 | .call c=>match c.callee with
  | .builtin b=>match b with
   | .len| .cap=>.l
   | .min| .max=>.q
   |_=>.e
  |_=>.e
 |_=>.e
def Jp (o:Oper):Bool:=match Zd o.op with
 | .e=>true
 |_=>false
def MT (ops:List Oper):Nat:=(ops.foldl (λ(p:Nat×Nat) o=>(Nat.add p.1 1,Nat.lor p.2 (Nat.shiftLeft (o.after.toList.foldl (λl e=>match Region.binds .any e with
 |true=>Nat.lor (Nat.shiftLeft 1 e.on) (Nat.lor l (Nat.mod (Nat.div p.2 (Nat.pow 2 (Nat.mul 64 e.on))) 18446744073709551616))
 |false=>l) 0) (Nat.mul 64 p.1)))) (0,0)).2
def S7 (an i:Nat):Nat:=Nat.mod (Nat.div an (Nat.pow 2 (Nat.mul 64 i))) 18446744073709551616
def D7 (an k i:Nat):Bool:=Nat.testBit (S7 an i) k
def sub (a b:Nat):Bool:=Nat.beq (Nat.land a b) a
def H6 (m i:Nat):Nat:=Nat.lor m (Nat.shiftLeft 1 i)
def OQ (ops:List Oper) (an:Nat):List Nat:=
 let ns:=List.range ops.length
 let go:=ops.zipIdx.foldl (λ(p:Nat×List Nat) x=>match Jp x.1 with
  |true=>(Nat.lor p.1 (H6 (S7 an x.2) x.2),p.2++(ns.filter λk=>Nat.testBit (S7 an x.2) k&& !Nat.testBit p.1 k)++[x.2])
  |false=>p) (0,[])
 go.2++ns.filter λk=> !Nat.testBit go.1 k
def wrM (ops:List Oper):Nat:=ops.zipIdx.foldl (λm x=>match x.1.dst with
 |some d=>Nat.lor m (Nat.shiftLeft (Nat.succ x.2) (Nat.mul 8 d))
 |none=>m) 0
def Ais (m d:Nat):Nat:=Nat.mod (Nat.div m (Nat.pow 2 (Nat.mul 8 d))) 256
def Aev (an wm y:Nat) (x:Operand):Bool:=match x with
 | .tmp t=>match Ais wm t with
  |0=>true
  |w+1=>Nat.beq w y||(D7 an w y||D7 an y w)
 |_=>true
def Am6 (ops:List Oper) (an wm:Nat):Bool:=ops.zipIdx.all λx=>(match x.1.dst with
 |none=>true
 |some d=>Nat.beq (Ais wm d) (Nat.succ x.2))&&x.1.op.operands.toList.all (Aev an wm x.2)
def Acl (an:Nat) (o:Oper):Nat:=o.after.toList.foldl (λl e=>match Region.binds .any e with
 |true=>Nat.lor l (Nat.lor (Nat.shiftLeft 1 e.on) (S7 an e.on))
 |false=>l) 0
def Aix (ops:List Oper) (an:Nat):Bool:=ops.zipIdx.all λx=>Nat.beq (S7 an x.2) (Acl an x.1)
def Aj2 (ops:List Oper) (an:Nat):Bool:=ops.zipIdx.all λx=>match x.1.guard with
 |none=>true
 |some (j,_)=>D7 an j x.2
def Zk (o:Oper):Bool:=match o.op with
 | .defer _=>false
 | .select .. =>false
 |_=>true
def RS (ops:List Oper) (an:Nat):Bool:=
 Nat.ble ops.length 64&&(JP ops&&(ops.all Zk&&(ops.all Aa2&&(Am6 ops an (wrM ops)&&(Aix ops an&&Aj2 ops an)))))
noncomputable def R4 (T:Tr Value) (xs:List Operand):Tr Value->(Tr Value->β)->β:=
 List.rec (motive:=λ_=>Tr Value->(Tr Value->β)->β) (λA K=>K A)
  (λx _ ih A K=>match x with
   | .tmp t=>match T.get t with
    |some v=>Tr.put z v A t λA=>ih A K
    |none=>ih A K
   |_=>ih A K) xs
noncomputable def Aat (T:Tr Value) (o:Oper) (k:Nat) (K:Value->Bk->β):β:=match o.op with
 | .alloc t=>match Qq P t with
  |some cs=>K (.pointer (some ⟨k,0,none⟩)) (.c cs t 0)
  |none=>z
 | .box t x=>K (.pointer (some ⟨k,0,none⟩)) (.c (C2 (evT T x).cells) t 0)
 | .buildSlice t l ps=>match tyE P t with
  |some p=>match Qq P p.1,Nat.ble (Nat.mul l p.2) 16777216,p.2 with
   |some zs,true,sz+1=>Xj z T (sz+1) ps.toList (Ge zs l) λcs=>K (.slice (some ⟨k,0,none⟩) l l) (.c cs p.1 0)
   |_,_,_=>z
  |none=>z
 | .makeMap t r=>match tyM P t,r with
  |some _,none=>K (.map (some k)) (.o (.map #[] 0))
  |_,_=>z
 |_=>z
noncomputable def RT (T:Tr Value) (o:Oper) (H:CH) (K:Value->CH->β):β:=match o.op with
 | .call c=>match c.callee with
  | .value f=>match evT T f with
   | .func (.func g) first cap=>match tyB P g with
    |true=>ih (.fn g (C2 first++(C2 (c.args.map (evT T))++C2 cap))) noF H λe _ H=>match e with
     | .val v=>K v H
     |_=>z
    |false=>z
   |_=>z
  |_=>opV P z T o H K
 |_=>opV P z T o H K
noncomputable def JR (an i k n:Nat) (v:Value) (T:Tr Value) (o:Oper) (es:List (Nat×CH)):Bool:=
 List.rec (motive:=λ_=>Bool) true (λp _ r=>match D7 an p.1 i with
  |true=>true
  |false=>opV P false T o ⟨p.2.h,k⟩ λv' H'=>match Nat.beq H'.n n&&Oh v v' with
   |true=>r
   |false=>false) es
noncomputable def ML (ops:Array Oper) (o:Oper) (T:Tr Value) (K:Bool->β):β:=match o.guard with
 |none=>K true
 |some (j,w)=>match ops[j]? with
  |some oj=>match oj.dst with
   |some d=>match evT T (.tmp d) with
    | .bool b=>K (b == w)
    |_=>K false
   |none=>z
  |none=>z
def JZ (an i pd:Nat) (es:List (Nat×CH)):Bool:=sub pd (S7 an i)&&match es with
 | []=>true
 |p::_=>D7 an p.1 i
noncomputable def Ai3 (an i:Nat) (o:Oper) (w:Bool) (next:Nat->Nat->Fr->CH->CH->List (Nat×CH)->β) (pd dn:Nat) (F:Fr) (H B:CH) (es:List (Nat×CH)):β:=
 match JZ an i pd es with
 |true=>match w with
  |true=>R4 z F.T o.op.operands.toList .lf λT=>RT P z ih T o H λv H'=>Iv z o.dst v F λF=>next 0 (H6 dn i) F H' H' ((i,B)::es)
  |false=>Iv z o.dst undef F λF=>next 0 (H6 dn i) F H H ((i,B)::es)
 |false=>z
noncomputable def QO (an n0 i:Nat) (o:Oper) (k:Kd) (next:Nat->Nat->Fr->CH->CH->List (Nat×CH)->β) (pd dn:Nat) (F:Fr) (H B:CH) (es:List (Nat×CH)):β:=
 R4 z F.T o.op.operands.toList .lf λT=>match k with
  | .q=>opV P z T o ⟨.lf,0⟩ λv H'=>match Nat.beq H'.n 0 with
   |true=>Iv z o.dst v F λF=>next (H6 pd i) (H6 dn i) F H B es
   |false=>z
  | .l=>opV P z T o ⟨B.h,Nat.add n0 i⟩ λv H'=>match JR P an i (Nat.add n0 i) H'.n v T o es with
   |true=>match Nat.beq H'.n (Nat.add n0 i) with
    |true=>Iv z o.dst v F λF=>next (H6 pd i) (H6 dn i) F H B es
    |false=>Tr.put z .d H.h (Nat.add n0 i) λh=>Iv z o.dst v F λF=>next (H6 pd i) (H6 dn i) F ⟨h,H.n⟩ B es
   |false=>z
  | .n=>Aat P z T o (Nat.add n0 i) λv b=>Tr.put z b H.h (Nat.add n0 i) λh=>Iv z o.dst v F λF=>next (H6 pd i) (H6 dn i) F ⟨h,H.n⟩ B es
  | .e=>z
noncomputable def QP (an n0 i:Nat) (o:Oper) (w:Bool) (next:Nat->Nat->Fr->CH->CH->List (Nat×CH)->β) (pd dn:Nat) (F:Fr) (H B:CH) (es:List (Nat×CH)):β:=
 match Zd o.op with
 | .e=>Ai3 P z ih an i o w next pd dn F H B es
 |k=>match w with
  |true=>QO P z an n0 i o k next pd dn F H B es
  |false=>Iv z o.dst undef F λF=>next (H6 pd i) (H6 dn i) F H B es
noncomputable def Ra (ops:Array Oper) (an n0:Nat) (K:E5 β) (l:List Nat):Nat->Nat->Fr->CH->CH->List (Nat×CH)->β:=
 List.rec (motive:=λ_=>Nat->Nat->Fr->CH->CH->List (Nat×CH)->β) (λ_ dn F H _ _=>match Nat.beq (Nat.add dn 1) (Nat.pow 2 ops.size) with
   |true=>K .normal F H
   |false=>z)
  (λi _ next pd dn F H B es=>match ops[i]? with
   |some o=>match sub (S7 an i) dn&& !(Nat.testBit dn i) with
    |true=>ML z ops o F.T λw=>QP P z ih an n0 i o w next pd dn F H B es
    |false=>z
   |none=>z) l
noncomputable def Z5 (ops:Array Oper) (F:Fr) (H:CH) (K:E5 β):β:=match RS ops.toList (MT ops.toList) with
 |true=>Ra P z ih ops (MT ops.toList) H.n K (OQ ops.toList (MT ops.toList)) 0 0 F ⟨H.h,Nat.add H.n ops.size⟩ ⟨H.h,Nat.add H.n ops.size⟩ []
 |false=>z
noncomputable def ZJ (v:Value) (a b:W (U7 β)) (F:Fr) (H:CH) (K:E5 β):β:=match v with
 | .bool v=>match v with
  |true=>a.f ih F H K
  |false=>b.f ih F H K
 |_=>z
noncomputable def Q9 (c:Code):W (U7 β):=Code.rec (motive:=λ_=>W (U7 β))
 ⟨λ_ F H K=>K .normal F H⟩
 (λ_ ops d=>match d with
  |false=>CP P z ops ops.toList
  |true=>⟨λih F H K=>Z5 P z ih ops F H K⟩)
 (λ_ _ a b=>⟨λih F H K=>a.f ih F H (Ah5 ih b K)⟩)
 (λc _ _ a b=>match C3 c with
  |true=>⟨λih F H K=>ZJ z ih (evT F.T c) a b F H K⟩
  |false=>⟨λ_ _ _ _=>z⟩)
 (λid _ b=>⟨λih F H K=>b.f ih F H (Y4 id K)⟩)
 (λb _=>⟨λih F H K=>ih (.lp b) F H K⟩)
 (λf ps pre body _ _=>⟨λih F H K=>BN P z ih f ps.toList pre body F H K⟩)
 (λid=>⟨λ_ F H K=>K (.exit id) F H⟩)
 (λb _=>⟨λih F H K=>ih (.sc b b) F H K⟩)
 (λ_=>⟨λ_ F H K=>K .normal F H⟩)
 (λl=>⟨λ_ F H K=>K (.goto l) F H⟩)
 ⟨λ_ F H K=>K .ret F H⟩
 (λ_=>⟨λ_ _ _ _=>z⟩) c
noncomputable def step:Ev β:=λt F H K=>Task.casesOn t (λf args=>fnK P z cau te kn ih f args H K) (λc=>(Q9 P z c).f ih F H K) (λb=>ih (.code b) F H (QS ih b K)) (λb c=>scK ih b c F H K) λl=>FO P z cau ih l F H K
noncomputable def ev (f:Nat):Ev β:=Nat.rec (motive:=λ_=>Ev β) (λ_ _ _ _=>z) (λ_ ih=>step P z cau te kn ih) f
end
end Go.Proofs.YtjofafbkkpdgbaaGreat.Ck
