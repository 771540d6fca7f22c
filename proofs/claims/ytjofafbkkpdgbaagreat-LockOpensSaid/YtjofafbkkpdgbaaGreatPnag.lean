/- A part of the proof of LockOpens: rules and contracts. No condition. -/
import Derived.Test.YtjofafbkkpdgbaaGreatPnaf
set_option maxRecDepth 100000
set_option maxHeartbeats 4000000
set_option linter.all false
namespace Go.Proofs.YtjofafbkkpdgbaaGreat.Ck
open Go Go.RowKit Go.Shelf
section
variable {P:Program} {T:Tr Value} {m:Nat} {o:Oper} {H:CH} {β:Type} {z:β}
theorem Sf {x:Option Operand} {d:Nat} {K:Nat->β}:P8 z x T d K=z\/∃n,P8 z x T d K=K n/\(x=none->n=d)/\∀y,x=some y->∃k,evT T y=.int k (.ofNat n):=by
 unfold P8;split
 ·exact .inr ⟨d,I,λ_=>I,λ_ h=>nomatch h⟩
 ·rename_i y;split
  ·rename_i k n h;exact .inr ⟨n,I,(λh=>nomatch h),λy' h'=>by cases h';exact⟨k,h⟩⟩
  ·exact .inl I
theorem CV {isS:Bool} {len cap m h l:Nat} {lo hi mx:Option Value} (h1:mx=none->m=cap) (h2:∀v,mx=some v->∃k,v=.int k (.ofNat m)) (h3:m<=cap) (h4:hi=none->h=len) (h5:∀v,hi=some v->∃k,v=.int k (.ofNat h)) (h6:hi=none->mx=none) (h7:hi.isSome=true->h<=m)
  (h8:lo=none->l=0) (h9:∀v,lo=some v->∃k,v=.int k (.ofNat l)) (h10:l<=h) (w:World):(Instr.sliceBounds isS len cap lo hi mx).run P w=.ok (l,h,m) w:=by
 have sb:∀(k:IntKind) (n y:Nat) (c:BoundsCode),n<=y->(Instr.sliceBound (.int k (n:Int)) y c).run P w=.ok n w:=λk n y c hn=>by
  have h':(0:Int)<=(n:Int)/\(n:Int)<=(y:Int):=⟨Hv n,by exact_mod_cast hn⟩;simp only[Instr.sliceBound,asIntOf,Ba,Bh,An,h',and_self,If,Ej]
 unfold Instr.sliceBounds;cases mx with
 |none=>
  have:=h1 I;subst this;cases hi with
  |none=>
   have:=h4 I;subst this;cases lo with
   |none=>have:=h8 I;subst this;simp
   |some v=>obtain⟨k,rfl⟩:=h9 v I;simp[sb k l h _ h10]
  |some u=>
   obtain⟨k',rfl⟩:=h5 u I;cases lo with
   |none=>have:=h8 I;subst this;simp[sb k' h m _ (h7 I)]
   |some v=>obtain⟨k,rfl⟩:=h9 v I;simp[sb k l h _ h10,sb k' h m _ (h7 I)]
 |some x=>
  obtain⟨k'',rfl⟩:=h2 x I;cases hi with
  |none=>exact absurd (h6 I) tqS
  |some u=>
   obtain⟨k',rfl⟩:=h5 u I;cases lo with
   |none=>have:=h8 I;subst this;simp[sb k' h m _ (h7 I),sb k'' m cap _ h3]
   |some v=>obtain⟨k,rfl⟩:=h9 v I;simp[sb k l h _ h10,sb k' h m _ (h7 I),sb k'' m cap _ h3]
theorem Uv {G:Gh} {b o:Nat} {sp:Option Nat} {c l p j op:Nat} (hr:HY (G b) l p j op) (h:op=0\/sp.isSome=true\/o+c*op<l):ext G ⟨b,o,sp⟩ c=0:=by
 refine RY hr (h.imp id λh=>?_);simpa [Gr] using h
theorem KC {G:Gh} {b o:Nat} {c l p j op:Nat} (hr:HY (G b) l p j op) (h0:op≠0) (h:l<=o+c*op):ext G ⟨b,o,none⟩ c=(G b).xt:=by
 obtain⟨h1,h2,_⟩:=hr.2.1 h0;unfold ext;rw[Ar];simp only[K4,Tw,Aq,h1,h2];omega
theorem Yj {x:Option Operand} (h:∀y,x=some y->C3 y=true) {G:Gh} {a:Act} (ht:TR G T m a.tmps) {n:Nat} (hn:∀y,x=some y->∃k,evT T y=.int k (.ofNat n)):∀v,x.map a.eval=some v->∃k,v=.int k (.ofNat n):=by
 intro v hv;cases x with
 |none=>cases hv
 |some y=>
  cases hv;obtain⟨k,hk⟩:=hn y I;exact⟨k,by rw[Cz ht (h y I),hk];rfl⟩
theorem Aem {t:TypeId} {x:Operand} {lo hi mx:Option Operand} (ho:o.op=.slice t x lo hi mx) (hx:C3 x=true) (hlo:∀y,lo=some y->C3 y=true) (hhi:∀y,hi=some y->C3 y=true) (hmx:∀y,mx=some y->C3 y=true)
  {K:Value->CH->β}:LQ P z T t (evT T x) lo hi mx H K=z\/∃v H',LQ P z T t (evT T x) lo hi mx H K=K v H'/\OpW P T m o H v H':=by
 unfold LQ;split
 ·rename_i a len cap hu;split
  ·rename_i p hp;obtain⟨he,inf,hinf,hsz⟩:=Xv hp;generalize hK1:(λmm=>P8 z hi T len λh=>P8 z lo T 0 λl=>_)=K1;rcases Sf (z:=z) (x:=mx) (T:=T) (d:=cap) (K:=K1) with h0|⟨mm,h0,m1,m2⟩
   ·exact .inl h0
   rw[h0,<-hK1];dsimp only;generalize hK2:(λh=>P8 z lo T 0 λl=>_)=K2;rcases Sf (z:=z) (x:=hi) (T:=T) (d:=len) (K:=K2) with h0|⟨hh,h0,i1,i2⟩
   ·exact .inl h0
   rw[h0,<-hK2];dsimp only;generalize hK3:(λl=>_)=K3;rcases Sf (z:=z) (x:=lo) (T:=T) (d:=0) (K:=K3) with h0|⟨ll,h0,l1,l2⟩
   ·exact .inl h0
   rw[h0,<-hK3];clear hK1 hK2 hK3;dsimp only;split
   ·rename_i hc;simp only[Ad,G6,Fw] at hc;obtain⟨c1,c2,c3,c4⟩:=hc;have c4':hi=none->mx=none:=λh=>by
     rcases c4 with c4|c4
     ·exact Na.1 c4
     ·rw[h] at c4;cases c4
    refine .inr ⟨_,_,I,(OpP.mk λG a w ht hr=>?_).w⟩;have e:=Cz ht hx;rw[hu] at e;have hb:=CV (P:=P) (isS:=true) (len:=len) (cap:=cap) (m:=mm) (h:=hh) (l:=ll) (lo:=lo.map a.eval) (hi:=hi.map a.eval) (mx:=mx.map a.eval) (λh=>m1 (by simpa using h)) (Yj hmx ht m2) c1 (λh=>i1 (by simpa using h)) (Yj hhi ht i2) (λh=>by simpa using c4' (by simpa using h)) (λ_=>c2)
     (λh=>l1 (by simpa using h)) (Yj hlo ht l2) c3 w
    simp[execOp,ho,e,den,Instr.sliceAt,At he,Instr.slice,hb,sizeOf,typeInfo,hinf]
   ·rename_i b off sp hc;simp only[Ad,G6,Fw] at hc;obtain⟨c1,c2,c3,c4⟩:=hc;have c4':hi=none->mx=none:=λh=>by
     rcases c4 with c4|c4
     ·exact Na.1 c4
     ·rw[h] at c4;cases c4
    split
    ·rename_i cs ty op hbk;have run:∀(G:Gh) (a:Act) (w:World),TR G T m a.tmps->(mx=none->True)->∀e,ext G ⟨b,off,sp⟩ cap=e->(execOp a.eval o).run P w=.ok (.value (.slice (some (if (if mx.isSome then mm else mm+e)=ll then dA G ⟨b,off,sp⟩ else(dA G ⟨b,off,sp⟩).add (ll*p.2))) (hh- ll) ((if mx.isSome then mm else mm+e) - ll))) w:=λG a w ht _ e hee=>by
      have e1:=Cz ht hx;rw[hu] at e1;have hm1:mx.map a.eval=none->(if mx.isSome then mm else mm+e)=cap+e:=λh=>by
       have:mx=none:=by simpa using h
       rw[this];simp[m1 this]
      have hm2:∀v,mx.map a.eval=some v->∃k,v=.int k (.ofNat (if mx.isSome then mm else mm+e)):=λv hv=>by
       have:mx.isSome=true:=by cases mx with|none=>cases hv|some _=>rfl
       rw[Bi this];exact Yj hmx ht m2 v hv
      have hb:=CV (P:=P) (isS:=true) (len:=len) (cap:=cap+e) (m:=if mx.isSome then mm else mm+e) (h:=hh) (l:=ll) (lo:=lo.map a.eval) (hi:=hi.map a.eval) (mx:=mx.map a.eval) hm1 hm2 (by split<;>omega) (λh=>i1 (by simpa using h)) (Yj hhi ht i2) (λh=>by simpa using c4' (by simpa using h)) (λ_=>by split<;>omega)
       (λh=>l1 (by simpa using h)) (Yj hlo ht l2) c3 w
      simp only[execOp,ho,e1,den,Instr.sliceAt,At he,Instr.slice,hee,hb,sizeOf,typeInfo,J2,hinf,hsz,Ba,Bh,An];generalize (if mx.isSome=true then mm else mm+e)=M;by_cases hM:M=ll<;>simp[hM]
     have hR:∀(G:Gh) (w:World),HR G H.h w->∃p' j,HY (G b) cs.length p' j op:=λG w hr=>by
      obtain⟨pr,jk,_,h⟩:=hr.row hbk;exact⟨_,_,h⟩
     split
     ·
      rename_i hx1;simp only[Fw,Ad,Es,Gr] at hx1;refine .inr ⟨_,_,I,(OpP.mk λG a w ht hr=>?_).w⟩;obtain⟨p',j,hRm⟩:=hR G w hr;have hM:(if mx.isSome then mm else mm+ext G ⟨b,off,sp⟩ cap)=mm:=by
       cases hmm:mx with
       |some y=>simp
       |none=>
        have e1:=m1 hmm;rw[hmm] at hx1;simp only[K4] at hx1;have:=Uv (c:=cap) (o:=off) (sp:=sp) hRm (hx1.imp id λh=>by
         rw[h.1,<-e1];exact h.2)
        simp[this]
      have hr1:=run G a w ht (λ_=>trivial) _ I;rw[hM] at hr1;rw[hr1];have hx2:∀(o':Nat),o'+(mm- ll)*op<=off+mm*op->op=0\/(AY mx.isSome sp).isSome=true\/o'+(mm- ll)*op<cs.length:=λo' ho'=>by
       rcases hx1 with h|⟨h,h2|h2⟩
       ·exact .inl h
       ·exact .inr (.inl h2)
       ·refine .inr (.inr ?_);rw[<-h] at h2;have h2:off+mm*op<cs.length:=h2;omega
      cases hml:Nat.beq mm ll with
      |true=>
       have e2:=Bq hml;have h0:=Uv (o:=off) (c:=mm- ll) hRm (hx2 off (by rw[e2];simp));rw[e2] at h0;simp only[den,Nat.sub_eq,e2,h0,If,Eb];rfl
      |false=>
       have e2:=Kl hml;have h3:ll*p.2+(mm- ll)*op<=mm*op\/op≠p.2:=by
        by_cases h:op=p.2
        ·left
         rw[<-h,<-Fl];exact D0 _ tqO
        ·exact .inr h
       have h0:ext G ⟨b,off+ll*p.2,AY mx.isSome sp⟩ (mm- ll)=0:=by
        rcases h3 with h3|h3
        ·exact Uv hRm (hx2 _ tqO)
        ·rcases hx1 with h|⟨h,_⟩
         ·exact Uv hRm (.inl h)
         ·exact absurd h h3
       simp only[den,Nat.sub_eq,Nat.add_eq,Nat.mul_eq,h0,e2,Mu,Eb,Tk];rfl
     ·
      rename_i hx1 hop hml;simp only[U1,Ky] at hx1;have hop:=Bq hop;have e2:=Kl hml;obtain⟨hn0,hx1⟩:=hx1;have hn0:=Kl hn0;have hx1:(AY mx.isSome sp).isSome=false/\Nat.blt (Nat.add off (Nat.mul mm p.2)) cs.length=false:=by
       rcases hx1 with h|h
       ·rw[hop,Nat.beq_refl] at h;cases h
       ·simpa using h
      obtain⟨hs1,hs2⟩:=hx1;have hmx0:mx=none:=by
       cases mx with
       |none=>rfl
       |some y=>simp[AY] at hs1
      subst hmx0;have hsp:sp=none:=by
       cases sp with
       |none=>rfl
       |some y=>simp[AY] at hs1
      subst hsp;have e1:=m1 I;have hs2:¬off+mm*p.2<cs.length:=λh=>by
       have h2:Nat.blt (Nat.add off (Nat.mul mm p.2)) cs.length=true:=by rw[Gr];exact h
       rw[h2] at hs2;cases hs2
      refine .inr ⟨_,_,I,(OpP.mk λG a w ht hr=>?_).w⟩;obtain⟨p',j,hRm⟩:=hR G w hr;have hr1:=run G a w ht (λ_=>trivial) _ (KC (c:=cap) hRm hn0 (by rw[hop,<-e1];omega));rw[hr1];have h4:off+ll*p.2+(mm- ll)*op=off+mm*p.2:=by
       rw[hop,Ty,<-Fl]
       congr 2
       omega
      have h0:=KC (o:=off+ll*p.2) (c:=mm- ll) hRm hn0 (by rw[h4];omega);have h5:¬mm+(G b).xt=ll:=by omega
      simp only[den,Nat.sub_eq,Nat.add_eq,Nat.mul_eq,h0,K4,Hu,Mu,h5,Tk]
      congr 4
      omega
     ·
      rename_i hx1 hop hml;simp only[U1,Ky] at hx1;have hop:=Bq hop;have e2:=Bq hml;obtain⟨hn0,hx1⟩:=hx1;have hn0:=Kl hn0;have hx1:(AY mx.isSome sp).isSome=false/\Nat.blt (Nat.add off (Nat.mul mm p.2)) cs.length=false:=by
       rcases hx1 with h|h
       ·rw[hop,Nat.beq_refl] at h;cases h
       ·simpa using h
      obtain⟨hs1,hs2⟩:=hx1;have hmx0:mx=none:=by
       cases mx with
       |none=>rfl
       |some y=>simp[AY] at hs1
      subst hmx0;have hsp:sp=none:=by
       cases sp with
       |none=>rfl
       |some y=>simp[AY] at hs1
      subst hsp;have e1:=m1 I;have hs2:¬off+mm*p.2<cs.length:=λh=>by
       have h2:Nat.blt (Nat.add off (Nat.mul mm p.2)) cs.length=true:=by rw[Gr];exact h
       rw[h2] at hs2;cases hs2
      rcases On (z:=z) (b:=.d) (H:=H) (K:=λk H=>K (.slice (some ⟨k,0,none⟩) 0 0) H) with h|⟨h',h,hh'⟩
      ·exact .inl h
      ·refine .inr ⟨_,_,h,OpD.w hh' λG0 a w ht hr=>?_⟩;obtain⟨p',j,hRm⟩:=hR G0 w hr;have hr1:=run G0 a w ht (λ_=>trivial) _ (KC (c:=cap) hRm hn0 (by rw[hop,<-e1];omega));have hh0:hh- ll=0:=by omega
       have hm0:mm+(G0 b).xt- ll=(G0 b).xt:=by omega
       simp only[K4,Hu,Mu,hh0,hm0] at hr1;generalize hA:(if mm+(G0 b).xt=ll then dA G0 ⟨b,off,none⟩ else(dA G0 ⟨b,off,none⟩).add (ll*p.2))=A at hr1;have hA2:A.spot=none:=by
        rw[<-hA];split
        ·rfl
        ·rw[Tk];rfl
       refine⟨⟨A.block,A.off,0,0,(G0 b).xt⟩,.slice (some A) 0 (G0 b).xt,.inl hr1,λG hn=>?_⟩;obtain⟨ab,ao,as'⟩:=A;simp only at hA2;subst hA2;simp[den,dA,ext,hn]
     ·exact .inl I
    ·exact .inl I
   ·exact .inl I
  ·exact .inl I
 ·rename_i b off hu;split
  ·rename_i p hp;obtain⟨he,inf,hinf,hsz⟩:=MD hp;generalize hK1:(λmm=>P8 z hi T p.1 λh=>P8 z lo T 0 λl=>_)=K1;rcases Sf (z:=z) (x:=mx) (T:=T) (d:=p.1) (K:=K1) with h0|⟨mm,h0,m1,m2⟩
   ·exact .inl h0
   rw[h0,<-hK1];dsimp only;generalize hK2:(λh=>P8 z lo T 0 λl=>_)=K2;rcases Sf (z:=z) (x:=hi) (T:=T) (d:=p.1) (K:=K2) with h0|⟨hh,h0,i1,i2⟩
   ·exact .inl h0
   rw[h0,<-hK2];dsimp only;generalize hK3:(λl=>_)=K3;rcases Sf (z:=z) (x:=lo) (T:=T) (d:=0) (K:=K3) with h0|⟨ll,h0,l1,l2⟩
   ·exact .inl h0
   rw[h0,<-hK3];clear hK1 hK2 hK3;dsimp only;split
   ·rename_i cs ty hc hbk;simp only[Ad,G6,Fw] at hc;obtain⟨c1,c2,c3,c4⟩:=hc;have c4':hi=none->mx=none:=λh=>by
     rcases c4 with c4|c4
     ·exact Na.1 c4
     ·rw[h] at c4;cases c4
    refine .inr ⟨_,_,I,(OpP.mk λG a w ht hr=>?_).w⟩;have e:=Cz ht hx;rw[hu] at e;obtain⟨pr,jk,_,hRm⟩:=hr.row hbk;have hb:=CV (P:=P) (isS:=false) (len:=p.1) (cap:=p.1) (m:=mm) (h:=hh) (l:=ll) (lo:=lo.map a.eval) (hi:=hi.map a.eval) (mx:=mx.map a.eval) (λh=>m1 (by simpa using h)) (Yj hmx ht m2) c1 (λh=>i1 (by simpa using h)) (Yj hhi ht i2) (λh=>by simpa using c4' (by simpa using h)) (λ_=>c2)
     (λh=>l1 (by simpa using h)) (Yj hlo ht l2) c3 w
    have hz0:∀o' c',ext G ⟨b,o',none⟩ c'=0:=λo' c'=>Uv hRm (.inl I);simp only[execOp,ho,e,den,Instr.sliceAt,At he,Instr.sureAddr,hb,sizeOf,typeInfo,J2,hinf,hsz,Ba,Bh,An,Nat.sub_eq,hz0,Eb];cases hml:Nat.beq mm ll with
    |true=>rw[Bi (Bq hml)]
    |false=>rw[Ar (Kl hml),Tk];rfl
   ·exact .inl I
  ·exact .inl I
 ·exact .inl I
end
section
variable {P:Program} {T:Tr Value} {m:Nat} {o:Oper} {H:CH} {β:Type} {z:β}
theorem OpS.setRow {k:Nat} {cs cs':List Value} {t:TypeId} {op:Nat} {h':Tr Bk} {v:Value} (hk:H.h.get k=some (.c cs t op)) (hh:∀j,h'.get j=if j=k then some (.c cs' t op) else H.h.get j) (hl:cs'.length=cs.length)
  (hrun:∀(G:Gh) (a:Act) (w:World) (pr jk:List Value),TR G T m a.tmps->HR G H.h w->w.heap[(G k).b]? =some (.cells (pr++cs.map (den G)++jk).toArray t (0,0))->(G k).d=pr.length->HY (G k) cs.length pr.length jk.length op->
   Re P o a w (den G v) (w.setRow (G k).b (pr++cs'.map (den G)++jk).toArray)):OpS P T m o H v ⟨h',H.n⟩:=by
 intro al G0 a w ht hs;have hak:=hs.pr k _ hk;obtain⟨pr,jk,h1,hR⟩:=(hs.hr G0 .rfl).row hk;have r0:=hrun G0 a w pr jk (ht G0 .rfl) (hs.hr G0 .rfl) h1 hR.2.2 hR;have key:∀G,Ag al G0 G->den G0 v=den G v/\BR G k (w.setRow (G0 k).b (pr++cs'.map (den G0)++jk).toArray) (.c cs' t op):=λG hG=>by
  obtain⟨pr',jk',h1',hR'⟩:=(hs.hr G hG).row hk;have r1:=hrun G a w pr' jk' (ht G hG) (hs.hr G hG) h1' hR'.2.2 hR';obtain⟨e1,e2⟩:=r0.det r1;refine⟨e1,pr',jk',?_,by rw[hl];exact hR'⟩;rw[e2];exact Qy w _ _ _ _ _ h1'
 obtain⟨h3,h4⟩:=HS.write (w':=w.setRow (G0 k).b (pr++cs'.map (den G0)++jk).toArray) hs hk I hh (λG hG _=>(key G hG).2) (λj hj=>Pr w _ _ _ hj) (Nf w _ _) I I I;exact⟨al,G0,_,h4,h3,den G0 v,r0,λG hG=>(key G hG).1⟩
theorem Aen {t:TypeId} {x y:Operand} (ho:o.op=.store t x y) (hx:C3 x=true) (hy:C3 y=true) {K:CH->β}:FA P z t (evT T x) (evT T y) H K=z\/∃H',FA P z t (evT T x) (evT T y) H K=K H'/\OpS P T m o H undef H':=by
 unfold FA;split
 ·rename_i b off hu;split
  ·rename_i cs ty op hb;split
   ·rename_i kd hk;split
    ·rename_i hc;simp only[Ad,Es,Gr] at hc;rcases Qd (z:=z) (C2 (evT T y).cells) cs off (λcs=>Tr.put z (.c cs ty op) H.h b λh=>K ⟨h,H.n⟩) with h|⟨h,h2,h3⟩
     ·exact .inl h
     ·rw[h];have h2:off+(C2 (evT T y).cells).length<=cs.length:=by
       rcases h2 with h2|h2
       ·have:=hc.2;rw[<-Kj,<-J0,h2] at this;simp at this
       ·exact h2
      rcases Tr.put_spec z (.c (J7 cs off (C2 (evT T y).cells)) ty op) H.h b (λh=>K ⟨h,H.n⟩) with h4|⟨h',h4,hh⟩
      ·exact .inl h4
      ·refine .inr ⟨_,h4,OpS.setRow hb hh (Zt h2) λG a w pr jk ht hr hw hd _=>.inr ⟨?_,tqS⟩⟩;have e1:=Cz ht hx;have e2:=Cz ht hy;rw[hu] at e1;have e3:(a.eval y).cells=((C2 (evT T y).cells).map (den G)).toArray:=by
        apply Cn;rw[e2,Uu,J0]
       have:=Qc hk (o:=off+pr.length) hw e3 (by rw[Cr,J0,Kj];exact hc.1) (by simp only[Az,Cr];omega) (λx hx=>by
        obtain⟨x',hx',rfl⟩:=Cd.1 hx;rw[W8];exact h3 x' hx')
       have sp:=CY pr (cs.map (den G)) jk ((C2 (evT T y).cells).map (den G)) off (by simpa using h2);unfold J7 at sp;rw[sp] at this;simp only[den] at e1;simp only[execOp,ho,e1,dA,Instr.storeAt,Instr.sureAddr,Ba,Bh,An,hd,this];rw[Wm];rfl
    ·exact .inl I
   ·exact .inl I
  ·exact .inl I
 ·exact .inl I
theorem OpS.setObj {k:Nat} {es es':List MapEntry} {n n':Nat} {h':Tr Bk} (hk:H.h.get k=some (.o (.map ⟨es⟩ n))) (hh:∀j,h'.get j=if j=k then some (.o (.map ⟨es'⟩ n')) else H.h.get j)
  (hrun:∀(G:Gh) (a:Act) (w:World),TR G T m a.tmps->HR G H.h w->w.heap[(G k).b]? =some (.map ⟨es.map (Pn G)⟩ n)->(execOp a.eval o).run P w=.ok .skip {w with heap:=w.heap.setIfInBounds (G k).b (.map ⟨es'.map (Pn G)⟩ n')}):OpS P T m o H undef ⟨h',H.n⟩:=by
 intro al G0 a w ht hs;have hb:∀G,Ag al G0 G->w.heap[(G k).b]? =some (.map ⟨es.map (Pn G)⟩ n):=λG hG=>(hs.hr G hG).bk k _ hk I;have r0:=hrun G0 a w (ht G0 .rfl) (hs.hr G0 .rfl) (hb G0 .rfl);obtain⟨h3,h4⟩:=HS.write (w':= {w with heap:=w.heap.setIfInBounds (G0 k).b (.map ⟨es'.map (Pn G0)⟩ n')}) hs hk I hh (λG hG _=>by
  have r1:=hrun G a w (ht G hG) (hs.hr G hG) (hb G hG);rw[r0] at r1;injection r1 with _ e
  have hlt:(G k).b<w.heap.size:=(B5.1 (hb G hG)).1;show ({w with heap:=w.heap.setIfInBounds (G0 k).b (.map ⟨es'.map (Pn G0)⟩ n')}:World).heap[(G k).b]? =_
  rw[e];simp[hlt]) (λj hj=>by
   show (w.heap.setIfInBounds _ _)[j]? =_
   rw[Dz (Ut hj)]) tqS I I I
 exact⟨al,G0,_,h4,h3,undef,.inr ⟨r0,I⟩,λG hG=>by simp⟩
theorem LJ {w:World} {r:Nat} {es es':Array MapEntry} {n n':Nat} (h:w.heap[r]? =some (.map es n)):(setObj r (.map es' n')).run P w=.ok () {w with heap:=w.heap.setIfInBounds r (.map es' n')}:=by
 simp[Go.setObj,Sem.run,h]
theorem KU {α:Type} (g:α->α) (f f':α->α) (h:∀e,g (f e)=f' (g e)):∀(l:List α) (i:Nat),(l.map g).modify i f'=(l.modify i f).map g
 | [],i=>by simp
 |e::l,0=>by simp[h]
 |e::l,i+1=>by simp[KU g f f' h l i]
theorem OH {k:IntKind} {a:Int}:∀ {es:List MapEntry} {i:Nat} {p:Nat×Value},X7 k a es i=some (some p)->∃j e,p.1=i+j/\es[j]? =some e/\e.key=.int k a
 | [],i,p,h=>by simp[X7] at h
 |e::es,i,p,h=>by
  simp only[X7] at h;split at h
  ·rename_i k' b hk;split at h
   ·rename_i hkk;have hkk:k=k':=by simpa using hkk
    subst hkk;split at h
    ·rename_i hab;have hab:a=b:=by simpa using hab
     subst hab;cases h;exact⟨0,e,I,I,hk⟩
    ·obtain⟨j,e',h1,h2,h3⟩:=OH h;exact⟨j+1,e',tqO,by simpa using h2,h3⟩
   ·cases h
  ·cases h
theorem KY {t:TypeId} {x i v:Operand} (ho:o.op=.insert t x i v\/o.op=.mapUpdate t x i v) (hx:C3 x=true) (hi:C3 i=true) (hv:C3 v=true) {K:CH->β}:BI P z t (evT T x) (evT T i) (evT T v) H K=z\/
  ∃H',BI P z t (evT T x) (evT T i) (evT T v) H K=K H'/\OpS P T m o H undef H':=by
 have hex:∀a:Act,execOp a.eval o=(do Instr.mapUpdate t (a.eval x) (a.eval i) (a.eval v);pure .skip):=λa=>by
  rcases ho with ho|ho<;>simp only[execOp,ho]
 unfold BI;split
 ·rename_i e k a r he hui hux;obtain⟨kt,ik,h1,h2⟩:=VF he;split
  ·rename_i es n hb;split
   ·rename_i p hf;obtain⟨j,e',hj1,hj2,hj3⟩:=OH hf;simp only[Bl] at hj1;have hmod:(⟨es⟩:Array MapEntry).modify p.1 (λe=> {e with key:=evT T i,val:=evT T v})=⟨es.modify p.1 λe=> {e with key:=evT T i,val:=evT T v}⟩:=by
     apply Cn;simp
    rcases Tr.put_spec z (.o (.map ((⟨es⟩:Array MapEntry).modify p.1 λe=> {e with key:=evT T i,val:=evT T v}) n)) H.h r (λh=>K ⟨h,H.n⟩) with h|⟨h',h,hh⟩
    ·exact .inl h
    ·rw[hmod] at hh;refine .inr ⟨_,h,OpS.setObj hb hh λG a' w ht hr hw=>?_⟩;have e1:=Cz ht hx;have e2:=Cz ht hi;have e3:=Cz ht hv;rw[hux] at e1;have e2':=e2;rw[hui] at e2;simp only[Qu] at e2;simp only[den] at e1;have hff:=Vh (ik:=ik) hf G;simp only[Gf] at hff;have hck:=λb=>R6 (P:=P) (a:=a) (k':=k) h2 b 9999 w;have hkey:((es.map (Pn G))[p.1]?.map (·.key)).getD (.int k a)=.int k a:=by
      rw[hj1,Cq,hj2];simp[Pn,hj3]
     have hfin:(⟨es.map (Pn G)⟩:Array MapEntry).modify p.1 (λe=> {e with key:=.int k a,val:=a'.eval v})=⟨(es.modify p.1 λe=> {e with key:=evT T i,val:=evT T v}).map (Pn G)⟩:=by
      apply Cn;rw[Array.toList_modify];rw[KU (Pn G) (λe=> {e with key:=evT T i,val:=evT T v}) (λe=> {e with key:=.int k a,val:=a'.eval v}) λe=>by simp[Pn,e3,hui]]
     have hsm:Instr.sameBits 10000 (.int k a) (.int k a)=true:=by simp[Instr.sameBits]
     rw[hex a',e1,e2];simp only[Instr.mapUpdate,At h1,Ba,An,Vt hw,hck,Instr.findKey,At h2,hff,Bh,Ic,hkey,Instr.keyThatStays,hsm,If,LJ hw,hfin]
   ·rename_i hf;rcases Tr.put_spec z (.o (.map ⟨es++[{key:=evT T i,val:=evT T v,born:=n}]⟩ (n+1))) H.h r (λh=>K ⟨h,H.n⟩) with h|⟨h',h,hh⟩
    ·exact .inl h
    ·refine .inr ⟨_,h,OpS.setObj hb hh λG a' w ht hr hw=>?_⟩;have e1:=Cz ht hx;have e2:=Cz ht hi;have e3:=Cz ht hv;rw[hux] at e1;rw[hui] at e2;simp only[Qu] at e2;simp only[den] at e1;have hff:=Vh (ik:=ik) hf G;simp only[Kh] at hff;have hck:=λb=>R6 (P:=P) (a:=a) (k':=k) h2 b 9999 w;have hfin:(⟨es.map (Pn G)⟩:Array MapEntry).push ({key:=.int k a,val:=a'.eval v,born:=n}:MapEntry)=⟨(es++[({key:=evT T i,val:=evT T v,born:=n}:MapEntry)]).map (Pn G)⟩:=by
      apply Cn;simp[Pn,e3,hui]
     rw[hex a',e1,e2];simp only[Instr.mapUpdate,At h1,Ba,An,Vt hw,hck,Instr.findKey,At h2,hff,Bh,LJ hw,hfin]
   ·exact .inl I
  ·exact .inl I
 ·exact .inl I
end
variable {al:Nat->Prop}
theorem HS.move {G0:Gh} {H:CH} {w w':World} {k:Nat} {b b':Bk} {h':Tr Bk} (g:GI) (hs:HS al G0 H w) (hk:H.h.get k=some b) (hl:Lb b=true)
  (hh:∀j,h'.get j=if j=H.n then some b' else if j=k then some .d else H.h.get j) (hg:g.b=(G0 k).b)
  (hw:∀G,Ag al G0 G->G H.n=g->BR G H.n w' b') (ho:∀j,j≠(G0 k).b->w'.heap[j]? =w.heap[j]?) (hsz:w'.heap.size=w.heap.size) (h1:w'.os=w.os) (h2:w'.tape=w.tape) (h3:w'.output=w.output):
  HS (λj=>al j\/j=H.n) (λj=>if j=H.n then g else G0 j) ⟨h',H.n+1⟩ w'/\To al G0 H w (λj=>al j\/j=H.n) (λj=>if j=H.n then g else G0 j) ⟨h',H.n+1⟩ w':=by
 have hne:∀j,al j->j≠H.n:=λj hj=>Km (hs.lt j hj);have hA:∀j,al j->(al j\/j=H.n)/\(if j=H.n then g else G0 j)=G0 j:=λj hj=>⟨.inl hj,Ar (hne j hj)⟩;have hak:=hs.pr k b hk;refine⟨⟨λj hj=>?_,λj c hj=>?_,λG hG=>?_⟩,⟨Nat.le_succ _,hA,λj hj h=>h.resolve_right (Km hj),h1,h2,h3,Fy hsz.symm,λj hj hi=>ho j λe=>hi ⟨k,b,hk,hl,e.symm⟩,?_⟩⟩
 ·rcases hj with hj|rfl
  ·exact Nat.lt_succ_of_lt (hs.lt j hj)
  ·exact Nl _
 ·rw[hh] at hj;split at hj
  ·exact .inr (by assumption)
  ·split at hj
   ·rename_i e;rw[e];exact .inl hak
   ·exact .inl (hs.pr j c hj)
 ·have hG':Ag al G0 G:=hG.mono hA;have hn:G H.n=g:=(hG H.n (.inr I)).trans (Bi I);have hGk:(G H.n).b=(G k).b:=by rw[hn,hg,hG' k hak]
  refine⟨λj c hj hc=>?_,λi j c c' hi hj hc hc' e=>?_⟩
  ·rw[hh] at hj;split at hj
   ·rename_i e;subst e;cases hj;exact hw G hG' hn
   ·split at hj
    ·cases hj;cases hc
    ·rename_i e1 e2;refine((hs.hr G hG').bk j c hj hc).keep (ho _ λe'=>e2 ?_);rw[<-hG' k hak] at e';exact(hs.hr G hG').inj j k c b hj hk hc hl e'
  ·rw[hh] at hi hj;split at hi<;>split at hj
   ·rename_i e1 e2;rw[e1,e2]
   ·split at hj
    ·cases hj;cases hc'
    ·rename_i e1 _ e3;subst e1;rw[hGk] at e;exact absurd ((hs.hr G hG').inj k j b c' hk hj hl hc' e).symm e3
   ·split at hi
    ·cases hi;cases hc
    ·rename_i e1 e3 _;subst e3;rw[hGk] at e;exact absurd ((hs.hr G hG').inj i k c b hi hk hc hl e) (by assumption)
   ·split at hi<;>split at hj
    ·cases hi;cases hc
    ·cases hi;cases hc
    ·cases hj;cases hc'
    ·exact(hs.hr G hG').inj i j c c' hi hj hc hc' e
 ·rintro j hj ⟨i,c,hi,hc,e⟩;rw[hh] at hi;dsimp only at e;split at hi
  ·rename_i e1;subst e1;rw[Bi I,hg] at e;exact⟨k,b,hk,hl,e⟩
  ·rename_i e1;rw[Ar e1] at e;split at hi
   ·cases hi;cases hc
   ·exact⟨i,c,hi,hc,e⟩
section
variable {P:Program} {T:Tr Value} {m:Nat} {o:Oper} {H:CH} {β:Type} {z:β}
variable {n:Nat} {t:TypeId} {w w':World}
theorem HR.cells {G:Gh} {h:Tr Bk} (hr:HR G h w) {k off:Nat} {cs:List Value} {op:Nat} (hk:h.get k=some (.c cs t op)) (hn:off+n<=cs.length) (hw:w'.heap=w.heap) {sp:Option Nat}:
  (loadCells (dA G ⟨k,off,sp⟩) n).run P w'=.ok (((cs.drop off).take n).map (den G)).toArray w':=by
 obtain⟨pr,jk,h1,_,_,h2⟩:=hr.row hk;have hl:(((cs.drop off).take n).map (den G)).length=n:=by simp;omega
 have:=R7 (P:=P) w' (dA G ⟨k,off,sp⟩) (((cs.drop off).take n).map (den G)) (λj v hj=>by
  have e:(dA G ⟨k,off,sp⟩).add j=⟨(G k).b,off+j+pr.length,none⟩:=by rw[Tk];simp[dA,h2]
  rw[e];have hc:w'.cell? ⟨(G k).b,off+j+pr.length,none⟩=(pr++cs.map (den G)++jk)[off+j+pr.length]?:=Iu (by rw[hw];exact h1);rw[hc];have hjn:j<n:=by
   have:=(Aa.1 hj).1;rw[hl] at this;exact this
  rw[Cp,Dp tqO,Eo (by simp;omega)];rw[show off+j+pr.length- pr.length=off+j by omega];rw[Ir,Ko,Kz,Bi hjn,E3] at hj;exact hj)
 rw[hl] at this;exact this
variable {sz:Nat}
theorem GU {x:Value} {K:List Value->β}:DU z x n sz H K=z\/∃vs,DU z x n sz H K=K vs/\vs.length=n*sz/\(n=0->vs=[])/\
  ((n≠0\/∃a l c,x=.slice a l c)->∀(G:Gh) (w w':World),HR G H.h w->w'.heap=w.heap->(Builtin.firstCells sz n (den G x)).run P w'=.ok (vs.map (den G)).toArray w'):=by
 unfold DU;split
 ·refine .inr ⟨[],I,tqS,λ_=>I,λhx G w w' _ _=>?_⟩;rcases hx with hx|⟨a,l,c,rfl⟩
  ·exact absurd I hx
  ·cases a<;>simp[den,Builtin.firstCells,loadCells,loadCellsFrom]
 ·rename_i n' hn0;split
  ·rename_i b off sp l c;split
   ·rename_i cs ty op hb;rcases Yp (z:=z) (Nat.mul n sz) off cs K with h|⟨h,h2⟩|⟨h2,h⟩
    ·exact .inl h
    ·refine .inr ⟨_,h,by simp only[Am,Bn];have:Nat.mul n sz=n*sz:=I;omega,λh=>absurd h hn0,λ_ G w w' hr hw=>?_⟩;have:=hr.cells (P:=P) (off:=off) (sp:=sp) hb h2 hw;simpa [den,Builtin.firstCells] using this
    ·refine .inr ⟨_,h,by rw[h2];simp;exact h2.symm,λh=>absurd h hn0,λ_ G w w' hr hw=>?_⟩;have h3:n*sz=0:=h2;rw[h2];simp[den,Builtin.firstCells,h3,loadCells,loadCellsFrom]
   ·exact .inl I
  ·exact .inl I
variable {base:Option Addr} {e:TypeId} {i:TypeInfo} {ty u:TypeId}
theorem UV {e2:TypeId} (ht:P.underlying t=some (.slice e)) (hu:P.underlying u=some (.slice e2)) (hi:P.info? e=some i) {l c xc:Nat} {xb:Option Addr} {news:Array Value}
  (hx:(Builtin.firstCells i.size n (.slice xb n xc)).run P w=.ok news w) (hroom:l+n<=c) (hst:∀a,base=some a->(storeCells (a.add (l*i.size)) news.toList).run P w=.ok () w') (hb:base=none->w'=w):
  (Builtin.append_ #[t,u] ty #[.slice base l c,.slice xb n xc]).run P w=.ok (.slice base (l+n) c) w':=by
 cases base with
 |none=>
  have:=hb I;subst this;simp[Builtin.append_,At ht,At hu,sizeOf,typeInfo,hi,Builtin.lenOf,hroom,hx]
 |some a=>simp[Builtin.append_,At ht,At hu,sizeOf,typeInfo,hi,Builtin.lenOf,hroom,hx,hst a I]
variable {zv:Value}
theorem UU {e2:TypeId} (ht:P.underlying t=some (.slice e)) (hu:P.underlying u=some (.slice e2)) (hi:P.info? e=some i) (hz:i.zero=some zv) {l c xc:Nat} {xb:Option Addr} {olds news:Array Value}
  (ho:(Builtin.firstCells i.size l (.slice base l c)).run P w.drew=.ok olds w.drew) (hx:(Builtin.firstCells i.size n (.slice xb n xc)).run P w.drew=.ok news w.drew) (hroom:c<l+n) (hsm:l+n<=1000000) (hby:i.bytes<=65536):
  (Builtin.append_ #[t,u] ty #[.slice base l c,.slice xb n xc]).run P w=
   .ok (.slice (some ⟨w.heap.size,0,none⟩) (l+n) (grownCap w (l+n) c e)) (w.drew.alloc (.cells (olds++news++Builtin.zeroCells zv.cells (grownCap w (l+n) c e- (l+n))) e)):=by
 have hn:¬(l+n<=c):=by omega
 have h63:¬(9223372036854775807<((l:Int)+(n:Int))):=by omega
 have hb2:(l+n)*i.bytes<=1000000*65536:=Se hsm hby;have h48:¬(281474976710656<Builtin.nextslicecap (l+n) c*i.bytes):=by
  have:=Sk (bytes:=i.bytes) hroom tqO;omega
 simp[Builtin.append_,At ht,At hu,sizeOf,typeInfo,zeroValue,hi,hz,Builtin.lenOf,hn,h63,h48,Question.forced,ho,hx,newRow,grownCap]
variable {al:Nat->Prop}
theorem HS.kill {G0:Gh} {H:CH} {k:Nat} {b:Bk} {h':Tr Bk} (hs:HS al G0 H w) (hk:H.h.get k=some b) (hl:Lb b=true) (hh:∀j,h'.get j=if j=k then some .d else H.h.get j):HS al G0 ⟨h',H.n⟩ w/\To al G0 H w al G0 ⟨h',H.n⟩ w:=
 hs.write hk hl hh (λ_ _ h=>nomatch h) (λ_ _=>I) I I I I
theorem HR.stable {G0 G:Gh} {H:CH} (hs:HS al G0 H w) (hG:Ag al G0 G) {k:Nat} {cs:List Value} {op:Nat} (hk:H.h.get k=some (.c cs t op)):cs.map (den G)=cs.map (den G0):=by
 obtain⟨pr,jk,h1,_,_,h2⟩:=(hs.hr G hG).row hk;obtain⟨pr',jk',h1',_,_,h2'⟩:=(hs.hr G0 .rfl).row hk;have e:=hG k (hs.pr k _ hk);rw[e] at h1 h2;rw[h1] at h1';injection h1' with h3
 injection h3 with h3
 have h3:pr++cs.map (den G)++jk=pr'++cs.map (den G0)++jk':=by simpa using h3
 have hl:pr.length=pr'.length:=by rw[<-h2,<-h2']
 rw[Cp,Cp] at h3;obtain⟨_,h4⟩:=List.append_inj h3 hl;exact(List.append_inj h4 tqS).1
variable {vs zs:List Value}
theorem HS.grow {G0:Gh} {H:CH} {h':Tr Bk} (hs:HS al G0 H w) (hh:∀j,h'.get j=if j=H.n then some (.c vs e (sz+1)) else H.h.get j)
  (hst:∀G,Ag al G0 G->vs.map (den G)=vs.map (den G0)) (hz:zs.length=n*(sz+1)):
  HS (λj=>al j\/j=H.n) (λj=>if j=H.n then⟨w.heap.size,0,vs.length,sz+1,n⟩ else G0 j) ⟨h',H.n+1⟩ (w.drew.alloc (.cells (vs.map (den G0)++zs).toArray e))/\
  To al G0 H w (λj=>al j\/j=H.n) (λj=>if j=H.n then⟨w.heap.size,0,vs.length,sz+1,n⟩ else G0 j) ⟨h',H.n+1⟩ (w.drew.alloc (.cells (vs.map (den G0)++zs).toArray e)):=by
 refine HS.alloc (w':=w.drew.alloc (.cells (vs.map (den G0)++zs).toArray e)) ⟨w.heap.size,0,vs.length,sz+1,n⟩ hs hh (λG hG hn _=>?_) (λj hj=>Gw w.drew _ j hj) (λ_=>Ak _) tqS I I I;refine⟨[],zs,?_,⟨λh=>(nomatch h),λ_=>⟨by rw[hn],by rw[hn],by rw[hn,hz]⟩,by rw[hn];rfl⟩⟩;rw[hn,hst G hG];simpa using E6 w.drew (.cells (vs.map (den G0)++zs).toArray e)
theorem Y8 (G:Gh) (a:Option Addr) (l c:Nat):∃c',den G (.slice a l c)=.slice (a.map (dA G)) l c':=by
 cases a with
 |none=>exact⟨c,I⟩
 |some a=>exact⟨_,I⟩
theorem Af4 {cl:Call} {p q:Operand} {s x:Value} (ho:o.op=.call cl) (hc:cl.callee=.builtin .append) (hts:cl.argTypes.toList=[t,u]) (hxs:cl.args.toList=[p,q]) (hp:C3 p=true) (hq:C3 q=true) (hs:evT T p=s) (hx:evT T q=x)
  {G:Gh} {a:Act} (ht:TR G T m a.tmps) {v:Value} (h:(Builtin.append_ #[t,u] o.type #[den G s,den G x]).run P w=.ok v w'):Re P o a w v w':=by
 refine .inl ?_;rw[QL ho hc hts hxs a];simp only[Bj,E4,Cz ht hp,Cz ht hq,hs,hx,builtin,Ba];rw[show (⟨[t,u]⟩:Array TypeId)= #[t,u] from I,show (⟨[den G s,den G x]⟩:Array Value)= #[den G s,den G x] from I,h];rfl
theorem OpS.grow1 {G0:Gh} {a:Act} {h1 h':Tr Bk} {need cap:Nat} (hs:HS al G0 ⟨h1,H.n⟩ w) (ht:To al G0 H w al G0 ⟨h1,H.n⟩ w) (hh:∀j,h'.get j=if j=H.n then some (.c vs e (sz+1)) else h1.get j)
  (hst:∀G,Ag al G0 G->vs.map (den G)=vs.map (den G0)) (hv:vs.length=need*(sz+1)) (hcap:need<=cap) (hz:zs.length=(cap- need)*(sz+1))
  (hrun:Re P o a w (.slice (some ⟨w.heap.size,0,none⟩) need cap) (w.drew.alloc (.cells (vs.map (den G0)++zs).toArray e))):
  ∃al' G0' w',To al G0 H w al' G0' ⟨h',H.n+1⟩ w'/\HS al' G0' ⟨h',H.n+1⟩ w'/\∃u,Re P o a w u w'/\∀G,Ag al' G0' G->u=den G (.slice (some ⟨H.n,0,none⟩) need need):=by
 obtain⟨h2,h3⟩:=HS.grow hs hh hst hz;refine⟨_,_,_,ht.trans h3,h2,_,hrun,λG hG=>?_⟩;have hn:=hG H.n (.inr I);simp only[If] at hn;have hx:ext G ⟨H.n,0,none⟩ need=cap- need:=by
  unfold ext;rw[Ar]
  ·rw[hn]
  ·simp only[K4,Tw,Aq,hn,hv];omega
 simp only[den,hx,dA,hn]
 congr 1
 omega
theorem MQ (hn:n<=65536) (hby:i.bytes<=65536):IntKind.i64.wrap (n:Int)=(n:Int)/\¬((n:Int)<0)/\¬(281474976710656<(n:Int)*(i.bytes:Int)):=by
 refine⟨by rw[T8];omega,tqO,?_⟩;have h1:n*i.bytes<=65536*65536:=Se hn hby;have h2:n*i.bytes<=4294967296:=h1;have:((n*i.bytes:Nat):Int)<=4294967296:=by omega
 rw[Q6] at this;omega
theorem QH {ki k:IntKind} (ht:P.underlying t=some (.slice e)) (hu:P.underlying u=some (.int ki)) (hi:P.info? e=some i) (hz:i.zero=some zv) (hsz:0<i.size) {l c:Nat} (hn:n<=65536) (hby:i.bytes<=65536)
  (hroom:l+n<=c) (hst:∀a,base=some a->(storeCells (a.add (l*i.size)) (Ge zv.cells.toList n)).run P w=.ok () w') (hb:base=none->w'=w):
  (Builtin.append_ #[t,u] ty #[.slice base l c,.int k (n:Int)]).run P w=.ok (.slice base (l+n) c) w':=by
 obtain⟨hw,h0,h48⟩:=MQ hn hby;have hzc:=Qj zv.cells n;rcases Oe n with hn0|hn0
 ·subst hn0;have hst':∀a,base=some a->w'=w:=λa ha=>by
   have:=hst a ha;simp[Ge,storeCells] at this;exact this.symm
  cases base with
  |none=>
   have:=hb I;subst this;have hl:l<=c:=by omega
   simp[Builtin.append_,At ht,At hu,sizeOf,typeInfo,hi,asInt,asIntOf,T8,hl]
  |some a=>
   have:=hst' a I;subst this;have hl:l<=c:=by omega
   simp[Builtin.append_,At ht,At hu,sizeOf,typeInfo,hi,asInt,asIntOf,T8,hl,storeCells]
 ·have hns:¬(n*i.size=0):=Nat.ne_of_gt (Ws hn0 hsz);cases base with
  |none=>
   have:=hb I;subst this;simp[Builtin.append_,At ht,At hu,sizeOf,typeInfo,zeroValue,hi,hz,asInt,asIntOf,hw,h0,h48,hroom]
  |some a=>
   have hst:=hst a I;rw[<-hzc] at hst;simp[Builtin.append_,At ht,At hu,sizeOf,typeInfo,zeroValue,hi,hz,asInt,asIntOf,hw,h0,h48,hroom,hns,hst]
theorem QG {ki k:IntKind} (ht:P.underlying t=some (.slice e)) (hu:P.underlying u=some (.int ki)) (hi:P.info? e=some i) (hz:i.zero=some zv) (hsz:0<i.size) {l c:Nat} {olds:Array Value} (hn:n<=65536)
  (ho:(Builtin.firstCells i.size l (.slice base l c)).run P w.drew=.ok olds w.drew) (hroom:c<l+n) (hsm:l+n<=1000000) (hby:i.bytes<=65536):
  (Builtin.append_ #[t,u] ty #[.slice base l c,.int k (n:Int)]).run P w=
   .ok (.slice (some ⟨w.heap.size,0,none⟩) (l+n) (grownCap w (l+n) c e)) (w.drew.alloc (.cells (olds++(Ge zv.cells.toList n).toArray++Builtin.zeroCells zv.cells (grownCap w (l+n) c e- (l+n))) e)):=by
 obtain⟨hw,h0,h48'⟩:=MQ hn hby;have hzc:(Ge zv.cells.toList n).toArray=Builtin.zeroCells zv.cells n:=by rw[<-Qj]
 have hn1:¬(l+n<=c):=by omega
 have h63:¬(9223372036854775807<((l:Int)+(n:Int))):=by omega
 have hb2:(l+n)*i.bytes<=1000000*65536:=Se hsm hby;have h48:¬(281474976710656<Builtin.nextslicecap (l+n) c*i.bytes):=by
  have:=Sk (bytes:=i.bytes) hroom tqO;omega
 rw[hzc];rcases Oe n with hn0|hn0
 ·subst hn0;have e0:Builtin.zeroCells zv.cells 0= #[]:=by
   apply Cn;rw[Qj];simp[Ge]
  simp only[Eb] at hn1 h63 h48 hroom⊢;simp[Builtin.append_,At ht,At hu,sizeOf,typeInfo,zeroValue,hi,hz,asInt,asIntOf,T8,hn1,h48,Question.forced,ho,newRow,grownCap,e0,show ¬(9223372036854775807<(l:Int)) by omega]
 ·have hns:¬(n*i.size=0):=Nat.ne_of_gt (Ws hn0 hsz);simp[Builtin.append_,At ht,At hu,sizeOf,typeInfo,zeroValue,hi,hz,asInt,asIntOf,hw,h0,h48',hn1,h63,h48,hns,Question.forced,ho,newRow,grownCap]
theorem OpS.app {cl:Call} {p q:Operand} {s x:Value} (ho:o.op=.call cl) (hc:cl.callee=.builtin .append) (hts:cl.argTypes.toList=[t,u]) (hxs:cl.args.toList=[p,q]) (hp:C3 p=true) (hq:C3 q=true) (hs:evT T p=s) (hx:evT T q=x)
  (hzl:zv.cells.size=sz+1) (hvl:vs.length=n*(sz+1))
  (hroomR:∀(G:Gh) (w w':World) (base:Option Addr) (l c:Nat),HR G H.h w->l+n<=c->(∀a,base=some a->(storeCells (a.add (l*(sz+1))) (vs.map (den G))).run P w=.ok () w')->(base=none->w'=w)->(Builtin.append_ #[t,u] o.type #[.slice base l c,den G x]).run P w=.ok (.slice base (l+n) c) w')
  (hgrowR:∀(G:Gh) (w:World) (base:Option Addr) (l c:Nat) (olds:Array Value),HR G H.h w->(Builtin.firstCells (sz+1) l (.slice base l c)).run P w.drew=.ok olds w.drew->c<l+n->l+n<=1000000->(Builtin.append_ #[t,u] o.type #[.slice base l c,den G x]).run P w=
   .ok (.slice (some ⟨w.heap.size,0,none⟩) (l+n) (grownCap w (l+n) c e)) (w.drew.alloc (.cells (olds++(vs.map (den G)).toArray++Builtin.zeroCells zv.cells (grownCap w (l+n) c e- (l+n))) e)))
  (stv:∀(al:Nat->Prop) (G0:Gh) (a:Act) (w:World),TS al G0 T m a->HS al G0 H w->∀G,Ag al G0 G->vs.map (den G)=vs.map (den G0)) {K:Value->CH->β}:
  MU z s vs n e (sz+1) H K=z\/∃v H',MU z s vs n e (sz+1) H K=K v H'/\OpS P T m o H v H':=by
 have runs:=λ{G:Gh} {a:Act} (ht:TR G T m a.tmps) {w w' v} h=>Af4 (P:=P) (m:=m) ho hc hts hxs hp hq hs hx ht (w:=w) (w':=w') (v:=v) h;unfold MU;split
 ·
  split
  ·refine .inr ⟨_,H,I,OpP.s λG a w ht hr=>runs ht ?_⟩;exact hroomR G w w none 0 0 hr (Ak _) (λa h=>nomatch h) λ_=>I
  ·rename_i hn0;split
   ·rename_i hsm;have hsm:=Cy hsm;rcases On (z:=z) (b:=.c vs e (sz+1)) (H:=H) (K:=λk H=>K (.slice (some ⟨k,0,none⟩) n n) H) with h|⟨h',h,hh⟩
    ·exact .inl h
    ·refine .inr ⟨_,_,h,λal G0 a w ht hS=>?_⟩;have hn1:0<n:=Xg λh=>hn0 h;have hg:=hgrowR G0 w none 0 0 #[] (hS.hr G0 .rfl) (by simp[Builtin.firstCells]) tqO tqO;rw[Bl] at hg;refine OpS.grow1 (zs:=(Builtin.zeroCells zv.cells (grownCap w n 0 e- n)).toList) (cap:=grownCap w n 0 e) hS .rfl hh (stv al G0 a w ht hS) hvl (W3 w n 0 e) (by rw[Kj,Sy,hzl]) (runs (ht G0 .rfl) ?_);show (Builtin.append_ #[t,u] o.type #[.slice none 0 0,_]).run P w=_
     rw[hg]
     congr 3
     apply Cn;simp
   ·exact .inl I
 ·rename_i b off sp l c;split
  ·split
   ·rename_i hlc;have hlc:=Cy hlc;refine .inr ⟨_,H,I,OpP.s λG a w ht hr=>runs ht ?_⟩;have hv0:vs=[]:=E0 (by rw[hvl];simp);subst hv0;exact hroomR G w w (some _) l (c+ext G ⟨b,off,sp⟩ c) hr tqO (λa' h'=>by simp[storeCells]) (λh=>nomatch h)
   ·exact .inl I
  ·rename_i hn0;have hn1:0<n:=Xg λh=>hn0 h;split
   ·rename_i hsm;have hsm:=Cy hsm;unfold Acn;split
    ·rename_i cs ty op hb;split
     ·
      rename_i hroom;have hroom:l+n<=c:=Cy hroom;rcases Qd (z:=z) vs cs (Nat.add off (Nat.mul l (sz+1))) (λcs=>Tr.put z (.c cs ty op) H.h b λh=>K (.slice (some ⟨b,off,sp⟩) (Nat.add l n) c) ⟨h,H.n⟩) with h|⟨h,h2,h3⟩
      ·exact .inl h
      ·rw[h];have h2:off+l*(sz+1)+vs.length<=cs.length:=by
        rcases h2 with h2|h2
        ·have h5:0<n*(sz+1):=Ws hn1 (Nat.succ_pos sz);rw[<-hvl,h2] at h5;exact absurd h5 tqS
        ·exact h2
       rcases Tr.put_spec z (.c (J7 cs (Nat.add off (Nat.mul l (sz+1))) vs) ty op) H.h b (λh=>K (.slice (some ⟨b,off,sp⟩) (Nat.add l n) c) ⟨h,H.n⟩) with h4|⟨h',h4,hh⟩
       ·exact .inl h4
       ·refine .inr ⟨_,_,h4,OpS.setRow hb hh (Zt h2) λG a w pr jk ht hr hw hd _=>runs ht ?_⟩;have hst:=Lo P (G b).b (off+l*(sz+1)+pr.length) ty (vs.map (den G)) 0 _ w hw (by simp;omega) (λx hx=>by
         obtain⟨x',hx',rfl⟩:=Cd.1 hx;rw[W8];exact h3 x' hx')
        simp only[Eb] at hst;have sp1:=CY pr (cs.map (den G)) jk (vs.map (den G)) (off+l*(sz+1)) (by simpa using h2);unfold J7 at sp1;have hr1:=hroomR G w (w.setRow (G b).b (pr++(J7 cs (off+l*(sz+1)) vs).map (den G)++jk).toArray) (some (dA G ⟨b,off,sp⟩)) l (c+ext G ⟨b,off,sp⟩ c) hr tqO (λa' h'=>by
         cases h';rw[Tk];show (storeCells ⟨(G b).b,off+l*(sz+1)+(G b).d,none⟩ _ 0).run P w=_
         rw[hd,hst,sp1,Wm];rfl) (λh=>nomatch h)
        exact hr1
     ·rename_i hroom;have hroom:¬l+n<=c:=λh=>by
       have:Nat.ble (Nat.add l n) c=true:=by rw[G6];exact h
       rw[this] at hroom;cases hroom
      have hsm:l+n<=1000000:=hsm;have hus:∀(K':List Value->β),AO z cs off (Nat.mul l (sz+1)) K'=z\/∃us,AO z cs off (Nat.mul l (sz+1)) K'=K' us/\us.length=l*(sz+1)/\us=(cs.drop off).take (l*(sz+1))/\(l=0\/off+l*(sz+1)<=cs.length):=λK'=>by
       rcases Yp (z:=z) (Nat.mul l (sz+1)) off cs K' with h|⟨h,h2⟩|⟨h2,h⟩
       ·exact .inl h
       ·have h2:off+l*(sz+1)<=cs.length:=h2;exact .inr ⟨_,h,by simp only[Am,Bn];have:Nat.mul l (sz+1)=l*(sz+1):=I;omega,I,.inr h2⟩
       ·have h3:l*(sz+1)=0:=h2;refine .inr ⟨_,h,by rw[h2,h3];simp,I,.inl ?_⟩;rcases Nat.mul_eq_zero.1 h3 with h3|h3
        ·exact h3
        ·omega
      have hold:∀(G:Gh) (w:World) (us:List Value),HR G H.h w->us=(cs.drop off).take (l*(sz+1))->(l=0\/off+l*(sz+1)<=cs.length)->∀c',(Builtin.firstCells (sz+1) l (.slice (some (dA G ⟨b,off,sp⟩)) l c')).run P w.drew=.ok (us.map (den G)).toArray w.drew:=λG w us hr hu h c'=>by
       rw[hu];rcases h with h|h
       ·subst h;simp[Builtin.firstCells,loadCells,loadCellsFrom]
       ·have:=hr.cells (P:=P) (off:=off) (sp:=sp) hb h (w':=w.drew) I;simpa [Builtin.firstCells] using this
      have hstu:∀(al:Nat->Prop) (G0:Gh) (w:World) (us:List Value),HS al G0 H w->us=(cs.drop off).take (l*(sz+1))->∀G,Ag al G0 G->us.map (den G)=us.map (den G0):=λal G0 w us hS hu G hG=>by
       rw[hu,Ir,Ir,Ko,Ko,HR.stable hS hG hb]
      generalize hK1:(λus=>_)=K1;rcases hus K1 with h|⟨us,h,hul,hud,hub⟩
      ·exact .inl h
      rw[h,<-hK1];clear hK1 h;dsimp only;have hall:(us++vs).length=(l+n)*(sz+1):=by rw[Az,hul,hvl,Fl]
      split
      ·
       rename_i hex;simp only[Fw,Ad,Es] at hex;rcases On (z:=z) (b:=.c (us++vs) e (sz+1)) (H:=H) (K:=λk H=>K (.slice (some ⟨k,0,none⟩) (Nat.add l n) (Nat.add l n)) H) with h|⟨h',h,hh⟩
       ·exact .inl h
       ·refine .inr ⟨_,_,h,λal G0 a w ht hS=>?_⟩;obtain⟨pr,jk,_,hRm⟩:=(hS.hr G0 .rfl).row hb;have hx0:=Uv (o:=off) (sp:=sp) (c:=c) hRm (hex.imp id λh=>by
         rw[h.1];exact h.2.imp id λh=>by simpa [Gr] using h)
        have hg:=hgrowR G0 w (some (dA G0 ⟨b,off,sp⟩)) l c _ (hS.hr G0 .rfl) (hold G0 w us (hS.hr G0 .rfl) hud hub c) tqO hsm;refine OpS.grow1 (zs:=(Builtin.zeroCells zv.cells (grownCap w (l+n) c e- (l+n))).toList) (cap:=grownCap w (l+n) c e) hS .rfl hh (λG hG=>?_) hall (W3 w (l+n) c e) (by rw[Kj,Sy,hzl];rfl) (runs (ht G0 .rfl) ?_)
        ·rw[D6,D6,stv al G0 a w ht hS G hG,hstu al G0 w us hS hud G hG]
        ·show (Builtin.append_ #[t,u] o.type #[.slice (some (dA G0 ⟨b,off,sp⟩)) l (c+ext G0 ⟨b,off,sp⟩ c),_]).run P w=_
         rw[hx0,Eb,hg]
         congr 3
         apply Cn;simp
      ·split
       ·rename_i hex ham;simp only[Ad,Es] at ham;obtain⟨hop,hty,hsp,hend⟩:=ham;have hsp:sp=none:=Na.1 hsp;subst hsp;subst hop;subst hty;have hend:off+c*(sz+1)=cs.length:=hend;split
        ·rename_i hone;rw[A6] at hone;generalize hK2:(λh=>_)=K2;rcases Tr.put_spec z .d H.h b K2 with h|⟨h1,h,hh1⟩
         ·exact .inl h
         rw[h,<-hK2];clear hK2 h;dsimp only;rcases On (z:=z) (b:=.c (us++vs) ty (sz+1)) (H:=⟨h1,H.n⟩) (K:=λk H=>K (.slice (some ⟨k,0,none⟩) (Nat.add l n) (Nat.add l n)) H) with h|⟨h',h,hh⟩
         ·exact .inl h
         ·refine .inr ⟨_,_,h,λal G0 a w ht hS=>?_⟩;obtain⟨pr,jk,hw,hRm⟩:=(hS.hr G0 .rfl).row hb;have hx0:=KC (o:=off) (c:=c) hRm (Nat.succ_ne_zero sz) tqO;have hd:=hRm.2.2;obtain⟨_,_,hjk⟩:=hRm.2.1 (Nat.succ_ne_zero sz);have hst2:∀G,Ag al G0 G->(us++vs).map (den G)=(us++vs).map (den G0):=λG hG=>by
           rw[D6,D6,stv al G0 a w ht hS G hG,hstu al G0 w us hS hud G hG]
          by_cases hfit:l+n<=c+(G0 b).xt
          ·
           have hsp2:(l+n)*(sz+1)<=(c+(G0 b).xt)*(sz+1):=D0 _ hfit;rw[Fl,Fl] at hsp2;have hst:=Lo P (G0 b).b (off+l*(sz+1)+pr.length) ty (vs.map (den G0)) 0 _ w hw (by simp;omega) (λx hx=>by
            obtain⟨x',hx',rfl⟩:=Cd.1 hx;rw[W8];exact hone x' hx')
           simp only[Eb] at hst;generalize hL:pr++cs.map (den G0)++jk=L at hw hst;have hLl:L.length=pr.length+cs.length+(G0 b).xt*(sz+1):=by rw[<-hL,<-hjk];simp;omega
           have hcut:L.take (off+l*(sz+1)+pr.length)=L.take (off+pr.length)++us.map (den G0):=by
            rw[show off+l*(sz+1)+pr.length=(off+pr.length)+l*(sz+1) by omega,List.take_add]
            congr 1
            rcases hub with h0|h0
            ·subst h0;simp[hud]
            ·rw[hud,<-hL,Cp,Nk off,Pt,Lt (by simp;omega),C0 (by simp;omega),Ir,Ko]
           have hr1:=hroomR G0 w (w.setRow (G0 b).b (L.take (off+l*(sz+1)+pr.length)++vs.map (den G0)++L.drop (off+l*(sz+1)+pr.length+(vs.map (den G0)).length)).toArray) (some (dA G0 ⟨b,off,none⟩)) l (c+(G0 b).xt) (hS.hr G0 .rfl) hfit (λa' h'=>by
            cases h';rw[Tk];show (storeCells ⟨(G0 b).b,off+l*(sz+1)+(G0 b).d,none⟩ _ 0).run P w=_
            rw[hd];simpa using hst) (λh=>nomatch h)
           obtain⟨h5,h6⟩:=HS.move (h':=h') (w':=w.setRow (G0 b).b (L.take (off+l*(sz+1)+pr.length)++vs.map (den G0)++L.drop (off+l*(sz+1)+pr.length+(vs.map (den G0)).length)).toArray) (b':=.c (us++vs) ty (sz+1))
            ⟨(G0 b).b,off+pr.length,(us++vs).length,sz+1,c+(G0 b).xt- (l+n)⟩ hS hb I (λj=>by
             have:=hh j;rw[hh1] at this;exact this) I (λG hG hn=>by
             refine⟨L.take (off+pr.length),L.drop (off+l*(sz+1)+pr.length+(vs.map (den G0)).length),?_,⟨λh=>(nomatch h),λ_=>⟨by rw[hn],by rw[hn],?_⟩,by rw[hn];simp;omega⟩⟩
             ·rw[hn,hst2 G hG,D6];have:=Qy w (G0 b).b _ (L.take (off+l*(sz+1)+pr.length)++vs.map (den G0)++L.drop (off+l*(sz+1)+pr.length+(vs.map (den G0)).length)).toArray _ _ hw;rw[this,hcut];simp
             ·rw[hn];simp only[Bn,Cr,hLl,hvl];rw[Nat.sub_mul,Fl,Fl];omega) (λj hj=>Pr w _ _ _ hj) (Nf w _ _) I I I
           refine⟨_,_,_,h6,h5,_,runs (ht G0 .rfl) (v:=.slice (some (dA G0 ⟨b,off,none⟩)) (l+n) (c+(G0 b).xt)) ?_,λG hG=>?_⟩
           ·show (Builtin.append_ #[t,u] o.type #[.slice (some (dA G0 ⟨b,off,none⟩)) l (c+ext G0 ⟨b,off,none⟩ c),_]).run P w=_
            rw[hx0];exact hr1
           ·have hn:=hG H.n (.inr I);simp only[If] at hn;have hx:ext G ⟨H.n,0,none⟩ (l+n)=c+(G0 b).xt- (l+n):=by
             unfold ext;rw[Ar]
             ·rw[hn]
             ·simp only[K4,Tw,Aq,hn,hall];omega
            show _=Value.slice (some (dA G ⟨H.n,0,none⟩)) (l+n) (l+n+ext G ⟨H.n,0,none⟩ (l+n))
            rw[hx];simp only[dA,hn,hd,Bl]
            congr 1
            omega
          ·
           obtain⟨hS1,hT1⟩:=hS.kill hb I hh1;have hg:=hgrowR G0 w (some (dA G0 ⟨b,off,none⟩)) l (c+(G0 b).xt) _ (hS.hr G0 .rfl) (hold G0 w us (hS.hr G0 .rfl) hud hub _) tqO hsm;refine OpS.grow1 (zs:=(Builtin.zeroCells zv.cells (grownCap w (l+n) (c+(G0 b).xt) ty- (l+n))).toList) (cap:=grownCap w (l+n) (c+(G0 b).xt) ty) hS1 hT1 hh hst2 hall (W3 w (l+n) _ ty) (by rw[Kj,Sy,hzl];rfl) (runs (ht G0 .rfl) ?_);show (Builtin.append_ #[t,u] o.type #[.slice (some (dA G0 ⟨b,off,none⟩)) l (c+ext G0 ⟨b,off,none⟩ c),_]).run P w=_
           rw[hx0,hg]
           congr 3
           apply Cn;simp
        ·exact .inl I
       ·exact .inl I
    ·exact .inl I
   ·exact .inl I
 ·exact .inl I
theorem MG (h:NV P t=some zs):Qq P t=some zs/\∀i,P.info? t=some i->i.bytes<=65536:=by
 unfold NV at h;split at h
 ·rename_i y hy;split at h
  ·rename_i hb;exact⟨h,λi hi=>by rw[Aft hy hi];exact Cy hb⟩
  ·cases h
 ·cases h
theorem Aa3 {cl:Call} {ts:List TypeId} {p q:Operand} (ho:o.op=.call cl) (hc:cl.callee=.builtin .append) (hts:cl.argTypes.toList=ts) (hxs:cl.args.toList=[p,q]) (hp:C3 p=true) (hq:C3 q=true) {K:Value->CH->β}:
  FL P z ts (evT T p) (evT T q) H K=z\/∃v H',FL P z ts (evT T p) (evT T q) H K=K v H'/\OpS P T m o H v H':=by
 unfold FL;split
 ·rename_i t u;split
  ·rename_i pr hpr;obtain⟨he,inf,hinf,hsz'⟩:=Xv hpr;split
   ·rename_i zs sz xb n xc hz hsz hx;split
    ·rename_i hu;obtain⟨e2,hue⟩:=Wq hu;obtain⟨hz0,hby⟩:=MG hz;obtain⟨i,v0,hi,hzv,hcs,hlen,_,hzd⟩:=Ov hz0;rw[hinf] at hi;cases hi;have hby:=hby inf hinf;have hs1:inf.size=sz+1:=hsz'.trans hsz;have hzl:v0.cells.size=sz+1:=by rw[<-hs1,<-hlen,<-hcs];simp
     rw[hx];rcases GU (P:=P) (z:=z) (H:=H) (x:=.slice xb n xc) (n:=n) (sz:=sz+1) (K:=λvs=>MU z (evT T p) vs n pr.1 (sz+1) H K) with h|⟨vs,h,hvl,_,hsrc⟩
     ·exact .inl h
     ·rw[h];have hsrc:=hsrc (.inr ⟨xb,n,xc,I⟩);refine OpS.app ho hc hts hxs hp hq I hx hzl hvl (λG w w' base l c hr h1 h2 h3=>?_) (λG w base l c olds hr h1 h2 h3=>?_) λal G0 a w ht hS G hG=>?_
      ·obtain⟨xc',hxd⟩:=Y8 G xb n xc;have h0:=hsrc G w w hr I;rw[hxd] at h0⊢;exact UV he hue hinf (by rw[hs1];exact h0) h1 (by rw[hs1];simpa using h2) h3
      ·obtain⟨xc',hxd⟩:=Y8 G xb n xc;have h0:=hsrc G w w.drew hr I;rw[hxd] at h0⊢;exact UU he hue hinf hzv (by rw[hs1];exact h1) (by rw[hs1];exact h0) h2 h3 hby
      ·have h1:=hsrc G w w (hS.hr G hG) I;have h2:=hsrc G0 w w (hS.hr G0 .rfl) I;have e1:den G (.slice xb n xc)=den G0 (.slice xb n xc):=by rw[<-hx,<-Cz (ht G hG) hq,<-Cz (ht G0 .rfl) hq]
       rw[e1,h2] at h1;injection h1 with h3
       simpa using h3.symm
    ·exact .inl I
   ·rename_i zs sz k n hz hsz hx;split
    ·rename_i ki hu hn;have hue:=FD hu;have hn:=Cy hn;obtain⟨hz0,hby⟩:=MG hz;obtain⟨i,v0,hi,hzv,hcs,hlen,_,hzd⟩:=Ov hz0;rw[hinf] at hi;cases hi;have hby:=hby inf hinf;have hs1:inf.size=sz+1:=hsz'.trans hsz;have hzl:v0.cells.size=sz+1:=by rw[<-hs1,<-hlen,<-hcs];simp
     refine OpS.app ho hc hts hxs hp hq I hx hzl (by rw[Acj,hlen,hs1]) (λG w w' base l c hr h1 h2 h3=>?_) (λG w base l c olds hr h1 h2 h3=>?_) λal G0 a w ht hS G hG=>by rw[Ox (hzd G),Ox (hzd G0)]
     ·rw[Ox (hzd G)] at h2;exact QH he hue hinf hzv tqO hn hby h1 (by rw[hs1,hcs];exact h2) h3
     ·rw[Ox (hzd G)];have:=QG (ty:=o.type) (k:=k) he hue hinf hzv tqO hn (by rw[hs1];exact h1) h2 h3 hby;rw[hcs] at this;exact this
    ·exact .inl I
   ·exact .inl I
  ·exact .inl I
 ·exact .inl I
end
section
variable {P:Program} {T:Tr Value} {m:Nat} {o:Oper} {H:CH} {β:Type} {z:β}
variable {args:List Operand} {cl:Call} {ts:List TypeId}
theorem Z2 {b:Builtin} {xs:List Value} (ho:o.op=.call cl) (hc:cl.callee=.builtin b) (hts:cl.argTypes.toList=ts) (hxs:cl.args.toList=args) (hok:∀x∈args,C3 x=true) (hx:args.map (evT T)=xs)
  {G:Gh} {a:Act} (ht:TR G T m a.tmps) {w w':World} {v:Value} (h:∀cs,(builtin b ⟨ts⟩ o.type cs ⟨xs.map (den G)⟩).run P w=.ok (.value v) w'):Re P o a w v w':=by
 refine .inl ?_;rw[QL ho hc hts hxs a,Yw ht hok,hx];exact h _
variable {K:Value->CH->β}
theorem Ahj {d x:Value} (ho:o.op=.call cl) (hc:cl.callee=.builtin .copy) (hts:cl.argTypes.toList=ts) (hxs:cl.args.toList=args) (hok:∀x∈args,C3 x=true) (hx:args.map (evT T)=[d,x])
 :QN P z ts d x H K=z\/∃v H',QN P z ts d x H K=K v H'/\OpS P T m o H v H':=by
 have runs:=λ{G:Gh} {a:Act} (ht:TR G T m a.tmps) {w w' v} h=>Z2 (P:=P) (m:=m) ho hc hts hxs hok hx ht (w:=w) (w':=w') (v:=v) h;unfold QN;split
 ·rename_i t L a l c xb n xc;split
  ·rename_i p hp;obtain⟨he,inf,hinf,hsz⟩:=Xv hp;dsimp only;split
   ·rename_i hn0;refine .inr ⟨_,H,I,OpP.s λG a' w ht hr=>runs ht λcs=>?_⟩;have hn0:Nat.min n l=0:=hn0;obtain⟨c',h1⟩:=Y8 G a l c;obtain⟨c2,h2⟩:=Y8 G xb n xc;simp only[builtin,Bj,E4,h1,h2];cases a<;>cases xb<;>simp[Builtin.copy_,At he,Builtin.lenOf,hn0,sizeOf,typeInfo,hinf,Builtin.firstCells,loadCells,loadCellsFrom,storeCells,goInt]
   ·rename_i n' hn0;have hn1:0<Nat.min n l:=Xg λh=>hn0 h;generalize hK1:(λvs=>_)=K1;rcases GU (P:=P) (z:=z) (H:=H) (x:=.slice xb n xc) (n:=Nat.min n l) (sz:=p.2) (K:=K1) with h|⟨vs,h,hvl,_,hsrc⟩
    ·exact .inl h
    rw[h,<-hK1];clear hK1 h;dsimp only;have hsrc:=hsrc (.inr ⟨xb,n,xc,I⟩);split
    ·rename_i b off sp;split
     ·rename_i cs ty op hb;rcases Qd (z:=z) vs cs off (λcs=>Tr.put z (.c cs ty op) H.h b λh=>K (.int .i64 (.ofNat (Nat.min n l))) ⟨h,H.n⟩) with h|⟨h,h2,h3⟩
      ·exact .inl h
      ·rw[h];rcases Tr.put_spec z (.c (J7 cs off vs) ty op) H.h b (λh=>K (.int .i64 (.ofNat (Nat.min n l))) ⟨h,H.n⟩) with h4|⟨h',h4,hh⟩
       ·exact .inl h4
       ·have hlen:(J7 cs off vs).length=cs.length:=by
         rcases h2 with h2|h2
         ·subst h2;simp[J7]
         ·exact Zt h2
        refine .inr ⟨_,_,h4,OpS.setRow hb hh hlen λG a' w pr jk ht hr hw hd hRm=>runs ht λcs'=>?_⟩;obtain⟨c',h1⟩:=Y8 G (some ⟨b,off,sp⟩) l c;have h0:=hsrc G w w hr I;obtain⟨c2,h2'⟩:=Y8 G xb n xc;rw[h2'] at h0;have hst:(storeCells (dA G ⟨b,off,sp⟩) (vs.map (den G))).run P w=.ok () (w.setRow (G b).b (pr++(J7 cs off vs).map (den G)++jk).toArray):=by
         rcases h2 with h2|h2
         ·subst h2;have e0:J7 cs off []=cs:=by simp[J7]
          rw[e0,setRow_self w _ _ _ _ hw];simp[storeCells]
         ·have hst:=Lo P (G b).b (off+pr.length) ty (vs.map (den G)) 0 _ w hw (by simp;omega) (λx hx=>by
           obtain⟨x',hx',rfl⟩:=Cd.1 hx;rw[W8];exact h3 x' hx')
          simp only[Eb] at hst;have sp1:=CY pr (cs.map (den G)) jk (vs.map (den G)) off (by simpa using h2);unfold J7 at sp1;show (storeCells ⟨(G b).b,off+(G b).d,none⟩ _ 0).run P w=_
          rw[hd,hst,sp1,Wm];rfl
        simp only[builtin,Bj,E4,h1,h2',Gf];have hm:Nat.min n l=min n l:=I;simp[Builtin.copy_,At he,Builtin.lenOf,sizeOf,typeInfo,hinf,hsz,h0,hst,goInt]
     ·exact .inl I
    ·exact .inl I
  ·exact .inl I
 ·exact .inl I
theorem Aej {x:Value} (ho:o.op=.call cl) (hc:cl.callee=.builtin .clear) (hts:cl.argTypes.toList=ts) (hxs:cl.args.toList=args) (hok:∀x∈args,C3 x=true) (hx:args.map (evT T)=[x])
 :JU P z ts x H K=z\/∃v H',JU P z ts x H K=K v H'/\OpS P T m o H v H':=by
 have runs:=λ{G:Gh} {a:Act} (ht:TR G T m a.tmps) {w w' v} h=>Z2 (P:=P) (m:=m) ho hc hts hxs hok hx ht (w:=w) (w':=w') (v:=v) h;unfold JU;split
 ·rename_i t L a n c;split
  ·rename_i p hp;obtain⟨he,inf,hinf,hsz⟩:=Xv hp;split
   ·refine .inr ⟨_,H,I,OpP.s λG a' w ht hr=>runs ht λcs=>?_⟩;obtain⟨c',h1⟩:=Y8 G a 0 c;simp only[builtin,Bj,E4,h1];have hu:den G (Value.tuple #[])=Value.tuple #[]:=Z4 G;cases a<;>simp[Builtin.clear_,At he,undef,hu]
   ·rename_i hn0;split
    ·refine .inr ⟨_,H,I,OpP.s λG a' w ht hr=>runs ht λcs=>?_⟩;simp only[builtin,Bj,E4,den];have hu:den G (Value.tuple #[])=Value.tuple #[]:=Z4 G;simp[Builtin.clear_,At he,undef,hu]
    ·rename_i b off sp;split
     ·rename_i zs cs ty op hz hb;obtain⟨i,v0,hi,hzv,hcs,hlen,_,hzd⟩:=Ov hz;rw[hinf] at hi;cases hi;rcases Qd (z:=z) (Ge zs n) cs off (λcs=>Tr.put z (.c cs ty op) H.h b λh=>K undef ⟨h,H.n⟩) with h|⟨h,h2,h3⟩
      ·exact .inl h
      ·rw[h];rcases Tr.put_spec z (.c (J7 cs off (Ge zs n)) ty op) H.h b (λh=>K undef ⟨h,H.n⟩) with h4|⟨h',h4,hh⟩
       ·exact .inl h4
       ·have hlen2:(J7 cs off (Ge zs n)).length=cs.length:=by
         rcases h2 with h2|h2
         ·rw[h2];simp[J7]
         ·exact Zt h2
        refine .inr ⟨_,_,h4,OpS.setRow hb hh hlen2 λG a' w pr jk ht hr hw hd hRm=>runs ht λcs'=>?_⟩;have hzz:=Ox (hzd G) n;have hst:(storeCells (dA G ⟨b,off,sp⟩) (Ge zs n)).run P w=.ok () (w.setRow (G b).b (pr++(J7 cs off (Ge zs n)).map (den G)++jk).toArray):=by
         rcases h2 with h2|h2
         ·have e0:J7 cs off []=cs:=by simp[J7]
          rw[h2,e0,setRow_self w _ _ _ _ hw];simp[storeCells]
         ·have hst:=Lo P (G b).b (off+pr.length) ty (Ge zs n) 0 _ w hw (by simp;omega) λx hx=>h3 x hx;simp only[Eb] at hst;have sp1:=CY pr (cs.map (den G)) jk (Ge zs n) off (by simpa using h2);unfold J7 at sp1;show (storeCells ⟨(G b).b,off+(G b).d,none⟩ _ 0).run P w=_
          rw[hd,hst,sp1,Wm,hzz];rfl
        have hzc:(Builtin.zeroCells v0.cells n).toList=Ge zs n:=by rw[Qj,hcs]
        simp only[builtin,Bj,E4,den];have hu:C4 G []=[]:=I;simp[Builtin.clear_,At he,zeroValue,typeInfo,hinf,hzv,hzc,hst,undef,den,hu]
     ·exact .inl I
  ·exact .inl I
 ·exact .inl I
theorem WM {b:Builtin} (ho:o.op=.call cl) (hc:cl.callee=.builtin b) (hok:∀x∈cl.args.toList,C3 x=true):Y5 P z b cl.argTypes.toList (C2 (cl.args.map (evT T))) H K=z\/∃v H',Y5 P z b cl.argTypes.toList (C2 (cl.args.map (evT T))) H K=K v H'/\OpW P T m o H v H':=by
 have hargs:C2 (cl.args.map (evT T))=cl.args.toList.map (evT T):=by rw[J0,Di]
 rw[hargs];have eff:∀ {r:β},(r=z\/∃v H',r=K v H'/\OpS P T m o H v H')->isQ o.op=false->r=z\/∃v H',r=K v H'/\OpW P T m o H v H':=λh hq=>h.imp id λ⟨v,H',h1,h2⟩=>⟨v,H',h1,h2.w hq⟩;unfold Y5;split
 ·rename_i x hx;rcases Akv (P:=P) (m:=m) (H:=H) (z:=z) (K:=K) ho hc I I hok hx with h|⟨v,h,h2⟩
  ·exact .inl h
  ·exact .inr ⟨v,H,h,h2.w⟩
 ·rename_i x hx;rcases Aku (P:=P) (m:=m) (H:=H) (z:=z) (K:=K) ho hc I I hok hx with h|⟨v,h,h2⟩
  ·exact .inl h
  ·exact .inr ⟨v,H,h,h2.w⟩
 ·rename_i s x hx;generalize hL:cl.args.toList=L at hx hok
  match L,hx with
  | [p,q],hx=>
   injection hx with h1 h2
   injection h2 with h2 _
   subst h1;subst h2;exact eff (Aa3 ho hc I hL (hok p tqS) (hok q tqS)) (by simp[isQ,ho,hc])
 ·rename_i d x hx;exact eff (Ahj ho hc I I hok hx) (by simp[isQ,ho,hc])
 ·rename_i x hx;exact eff (Aej ho hc I I hok hx) (by simp[isQ,ho,hc])
 ·rename_i k a k' b' hx;split
  ·refine .inr ⟨_,H,I,OpP.w λG a' w ht hr=>Z2 ho hc I I hok hx ht λcs=>?_⟩;simp[builtin,Builtin.max_,Builtin.max2]
  ·exact .inl I
 ·rename_i k a k' b' hx;split
  ·refine .inr ⟨_,H,I,OpP.w λG a' w ht hr=>Z2 ho hc I I hok hx ht λcs=>?_⟩;simp[builtin,Builtin.min_,Builtin.min2]
  ·exact .inl I
 ·exact .inl I
theorem AE (hok:∀x∈o.op.operands.toList,C3 x=true):opV P z T o H K=z\/∃v H',opV P z T o H K=K v H'/\OpW P T m o H v H':=by
 have pure1:∀ {r:β} {K':Value->β},(∀v,K' v=K v H)->(r=z\/∃v,r=K' v/\OpP P T m o H v)->r=z\/∃v H',r=K v H'/\OpW P T m o H v H':=λhK h=>h.imp id λ⟨v,h1,h2⟩=>⟨v,H,h1.trans (hK v),h2.w⟩;have und1:∀ {r:β},isQ o.op=false->(r=z\/∃H',r=K undef H'/\OpS P T m o H undef H')->r=z\/∃v H',r=K v H'/\OpW P T m o H v H':=λhq h=>h.imp id λ⟨H',h1,h2⟩=>⟨undef,H',h1,h2.w hq⟩;have eff:∀ {r:β},(r=z\/∃v H',r=K v H'/\OpS P T m o H v H')->isQ o.op=false->r=z\/∃v H',r=K v H'/\OpW P T m o H v H':=λh hq=>h.imp id λ⟨v,H',h1,h2⟩=>⟨v,H',h1,h2.w hq⟩;unfold opV;split
 ·rename_i x ho;have hx:C3 x=true:=hok x (by simp[ho,Op.operands]);exact .inr ⟨_,H,I,OpP.w<|OpP.mk λG a w ht hr=>by simp[execOp,ho,Cz ht hx]⟩
 ·rename_i x ho;have hx:C3 x=true:=hok x (by simp[ho,Op.operands]);exact .inr ⟨_,H,I,OpP.w<|OpP.mk λG a w ht hr=>by simp[execOp,ho,Cz ht hx]⟩
 ·rename_i c x y ho;have hc:C3 c=true:=hok c (by simp[ho,Op.operands]);have hx:C3 x=true:=hok x (by simp[ho,Op.operands]);have hy:C3 y=true:=hok y (by simp[ho,Op.operands]);split
  ·rename_i cv hcv;split
   ·exact .inr ⟨_,H,I,OpP.w<|OpP.mk λG a w ht hr=>by
     have e:=Cz ht hc;rw[hcv] at e;simp[execOp,ho,e,asBool,Cz ht hx]⟩
   ·exact .inr ⟨_,H,I,OpP.w<|OpP.mk λG a w ht hr=>by
     have e:=Cz ht hc;rw[hcv] at e;simp[execOp,ho,e,asBool,Cz ht hy]⟩
  ·exact .inl I
 ·rename_i t ho;split
  ·rename_i cs hz;exact eff (Aeg ho hz) (by simp[isQ,ho])
  ·exact .inl I
 ·rename_i t x ho;exact eff (Akt ho (hok x (by simp[ho,Op.operands]))) (by simp[isQ,ho])
 ·rename_i t ps ho;exact pure1 (λ_=>I) (Aei ho λp hp=>hok p.2 (by simp only[ho,Op.operands];exact V1 hp))
 ·rename_i t l ps ho;exact eff (NJ ho λp hp=>hok p.2 (by simp only[ho,Op.operands];exact V1 hp)) (by simp[isQ,ho])
 ·rename_i t x k v ho;exact und1 (by simp[isQ,ho]) (KY (.inl ho) (hok x (by simp[ho,Op.operands])) (hok k (by simp[ho,Op.operands])) (hok v (by simp[ho,Op.operands])))
 ·rename_i t x k v ho;exact und1 (by simp[isQ,ho]) (KY (.inr ho) (hok x (by simp[ho,Op.operands])) (hok k (by simp[ho,Op.operands])) (hok v (by simp[ho,Op.operands])))
 ·rename_i t x ho;exact pure1 (λ_=>I) (Ahk ho (hok x (by simp[ho,Op.operands])))
 ·rename_i t x y ho;exact und1 (by simp[isQ,ho]) (Aen ho (hok x (by simp[ho,Op.operands])) (hok y (by simp[ho,Op.operands])))
 ·rename_i x ho;have hx:C3 x=true:=hok x (by simp[ho,Op.operands]);split
  ·rename_i a ha;exact .inr ⟨_,H,I,(EJ ho hx ha (.inl ⟨a,I⟩)).w⟩
  ·rename_i f a b ha;exact .inr ⟨_,H,I,(EJ ho hx ha (.inr ⟨f,a,b,I⟩)).w⟩
  ·exact .inl I
 ·rename_i op t x y t2 ho;exact pure1 (λ_=>I) (Aeh ho (hok x (by simp[ho,Op.operands])) (hok y (by simp[ho,Op.operands])))
 ·rename_i op t x ho;exact pure1 (λ_=>I) (Akw ho (hok x (by simp[ho,Op.operands])))
 ·rename_i t d x ho;exact pure1 (λ_=>I) (Ahi ho (hok x (by simp[ho,Op.operands])))
 ·rename_i f a b ho;split
  ·rename_i g;exact .inr ⟨_,H,I,(TL ho (λx hx=>hok x (by simp[ho,Op.operands,J3.1 hx])) λx hx=>hok x (by simp[ho,Op.operands,J3.1 hx])).w⟩
  ·exact .inl I
 ·rename_i t r ho;split
  ·exact eff (WP ho) (by simp[isQ,ho])
  ·exact .inl I
 ·rename_i t l c ho;exact eff (QC ho (hok l (by simp[ho,Op.operands])) (hok c (by simp[ho,Op.operands]))) (by simp[isQ,ho])
 ·rename_i t x lo hi mx ho;exact Aem ho (hok x (by simp[ho,Op.operands])) (λy hy=>hok y (by simp[ho,Op.operands,hy])) (λy hy=>hok y (by simp[ho,Op.operands,hy])) λy hy=>hok y (by simp[ho,Op.operands,hy])
 ·rename_i s x f ho;exact pure1 (λ_=>I) (QB ho (hok x (by simp[ho,Op.operands])))
 ·rename_i s x f ho;exact pure1 (λ_=>I) (Aek ho (hok x (by simp[ho,Op.operands])))
 ·rename_i t x i ho;exact pure1 (λ_=>I) (WO ho (hok x (by simp[ho,Op.operands])) (hok i (by simp[ho,Op.operands])))
 ·rename_i t x i ho;exact pure1 (λ_=>I) (Ael ho (hok x (by simp[ho,Op.operands])) (hok i (by simp[ho,Op.operands])))
 ·rename_i t x i c ho;exact pure1 (λ_=>I) (Aa4 ho (hok x (by simp[ho,Op.operands])) (hok i (by simp[ho,Op.operands])))
 ·rename_i x i ho;split
  ·rename_i vs hu;split
   ·rename_i v hv;exact .inr ⟨_,H,I,(WN ho (hok x (by simp[ho,Op.operands])) hu hv).w⟩
   ·exact .inl I
  ·exact .inl I
 ·rename_i t x ho;have hx:C3 x=true:=hok x (by simp[ho,Op.operands]);split
  ·rename_i hc;refine .inr ⟨_,H,I,OpP.w<|OpP.mk λG a w ht hr=>?_⟩;have e:=Cz ht hx;unfold Ajd at hc;split at hc
   ·cases hc
   ·rename_i y hni hy;cases y<;>first|exact absurd rfl (hni _)|simp[execOp,ho,Instr.makeInterface,At hy,e,den]
   ·cases hc
  ·exact .inl I
 ·rename_i c ho;split
  ·rename_i b hb;exact WM ho hb λx hx=>hok x (by simp[ho,Op.operands,Call.operands,hb,J3.1 hx])
  ·exact .inl I
 ·exact .inl I
theorem TK (hok:∀x∈o.op.operands.toList,C3 x=true):opV P z T o H K=z\/∃v H',opV P z T o H K=K v H'/\OpS P T m o H v H':=(AE (m:=m) hok (K:=K)).imp id λ⟨v,H',h1,h2⟩=>⟨v,H',h1,h2.1⟩
end
section
variable {P:Program} {F:Fence} {n:Nat} {b:Frame} {a:Act} {k:List Item} {cs:List Frame} {w:World}
variable {c:Code}
theorem XC:Go.step P (lone (b.atR a (.code (.scope c)::k)) cs w)=.next (lone (b.atR a (.code c::.inScope c::k)) cs w):=
 step_lone_go (by simp[stepG,stepG.exec,Frame.atR])
theorem QI:Go.step P (lone (b.atR a (.inScope c::k)) cs w)=.next (lone (b.atR a k) cs w):=
 step_lone_go (by simp[stepG,stepG.exec,Frame.atR])
def Z1 (F:Fence) (n:Nat) (P:Program) (c:Code) (Q:Exit->Act->World->Prop) (a:Act) (w:World):Prop:=
 ∀(b:Frame) (k:List Item) (cs:List Frame),b.roundOf=F.round->F.fn b.fn->F.room (cs.length+1+n)->
  ∃e a' w',Q e a' w'/\ArrivesIn (Machine.fenced P F) P (lone (b.atR a (.code c::.inLoop c::k)) cs w) b k cs e a' w'
variable {Q:Exit->Act->World->Prop}
theorem Z1.loop (h:Z1 F n P c Q a w):(Code.loop c).wpIn F n P Q a w:=by
 intro b k cs hro hb hr;obtain⟨e,a',w',hq,harr⟩:=h b k cs hro hb hr;exact⟨e,a',w',hq,.of_steps (.one (fenced_calm hb hr I) stepR_loop) harr⟩
theorem Z1.turn (h:c.wpIn F n P (Exit.then (Z1 F n P c Q) Q) a w):Z1 F n P c Q a w:=by
 intro b k cs hro hb hr;obtain⟨e,a₁,w₁,hq,harr⟩:=h b (.inLoop c::k) cs hro hb hr;cases e with
 |normal=>
  obtain⟨e₂,a₂,w₂,hq₂,harr₂⟩:=hq b k cs hro hb hr;exact⟨e₂,a₂,w₂,hq₂,.of_steps (StepsIn.trans harr (.one (fenced_calm hb hr I) stepR_inLoop)) harr₂⟩
 |exit id=>exact⟨_,a₁,w₁,hq,.pass (x:=.inLoop c) I (λ_ _=>.inl tqS) harr⟩
 |goto l=>exact⟨_,a₁,w₁,hq,.pass (x:=.inLoop c) I (λ_ _=>.inl tqS) harr⟩
 |ret=>exact⟨_,a₁,w₁,hq,.pass (x:=.inLoop c) I (λ_ _=>.inl tqS) harr⟩
 |panic ch=>exact⟨_,a₁,w₁,hq,.pass (x:=.inLoop c) I (λ_ _=>.inl tqS) harr⟩
 |outgrown=>exact⟨_,a₁,w₁,hq,.pass (x:=.inLoop c) I (λ_ _=>.inl tqS) harr⟩
def ScW (F:Fence) (n:Nat) (P:Program) (s c:Code) (Q:Exit->Act->World->Prop) (a:Act) (w:World):Prop:=
 ∀(b:Frame) (k:List Item) (cs:List Frame),b.roundOf=F.round->F.fn b.fn->F.room (cs.length+1+n)->
  ∃e a' w',Q e a' w'/\ArrivesIn (Machine.fenced P F) P (lone (b.atR a (.code c::.inScope s::k)) cs w) b k cs e a' w'
theorem ScW.scope (h:ScW F n P c c Q a w):(Code.scope c).wpIn F n P Q a w:=by
 intro b k cs hro hb hr;obtain⟨e,a',w',hq,harr⟩:=h b k cs hro hb hr;exact⟨e,a',w',hq,.of_steps (.one (fenced_calm hb hr I) XC) harr⟩
def LK (F:Fence) (n:Nat) (P:Program) (s:Code) (Q:Exit->Act->World->Prop):Exit->Act->World->Prop
 | .goto l,a,w=>match findLabel s l with
  |some rest=>ScW F n P s rest Q a w
  |none=>Q (.goto l) a w
 |e,a,w=>Q e a w
theorem ScW.turn {s:Code} (h:c.wpIn F n P (LK F n P s Q) a w):ScW F n P s c Q a w:=by
 intro b k cs hro hb hr;obtain⟨e,a₁,w₁,hq,harr⟩:=h b (.inScope s::k) cs hro hb hr;cases e with
 |normal=>exact⟨.normal,a₁,w₁,hq,StepsIn.trans harr (.one (fenced_calm hb hr I) QI)⟩
 |exit id=>
  have hx:exitTo id (.inScope s::k)=exitTo id k:=by simp[exitTo]
  exact⟨.exit id,a₁,w₁,hq,λk' hk=>harr.1 k' (by rw[hx];exact hk),λhr' hk=>harr.2 hr' (by rw[hx];exact hk)⟩
 |goto l=>
  simp only[LK] at hq;split at hq
  ·rename_i rest hf;have hg:gotoIn l (.inScope s::k)=some (.code rest::.inScope s::k):=by simp[gotoIn,hf]
   obtain⟨e₂,a₂,w₂,hq₂,harr₂⟩:=hq b k cs hro hb hr;exact⟨e₂,a₂,w₂,hq₂,.of_steps (harr.1 _ hg) harr₂⟩
  ·rename_i hf;have hx:gotoIn l (.inScope s::k)=gotoIn l k:=by simp[gotoIn,hf]
   exact⟨.goto l,a₁,w₁,hq,λk' hk=>harr.1 k' (by rw[hx];exact hk),λhr' hk=>harr.2 hr' (by rw[hx];exact hk)⟩
 |ret=>exact⟨_,a₁,w₁,hq,harr⟩
 |panic ch=>exact⟨_,a₁,w₁,hq,harr⟩
 |outgrown=>exact⟨_,a₁,w₁,hq,harr⟩
end
def feR (r:Option Nat):Fence:= {Fence.wide with round:=r}
def exD (G:Gh):Ex->Exit
 | .normal=>.normal
 | .exit i=>.exit i
 | .goto l=>.goto l
 | .ret=>.ret
 | .panic v=>.panic [{v:=den G v,recovered:=false}]
 | .val _=>.outgrown
def QR (al:Nat->Prop) (G0:Gh) (q:Option Nat) (r:Option Nat):Prop:=match q with
 |none=>r=none
 |some b=>al b/\r=some (G0 b).b
theorem QR.to {al':Nat->Prop} {G G':Gh} {H H':CH} {w w':World} {q r:Option Nat} (h:QR al G q r) (ht:To al G H w al' G' H' w'):QR al' G' q r:=by
 cases q with
 |none=>exact h
 |some b=>exact⟨(ht.up b h.1).1,by rw[(ht.up b h.1).2];exact h.2⟩
def Pm (al:Nat->Prop) (G0:Gh) (H:CH) (w:World) (e:Ex) (F':Fr) (H':CH) (Q:Exit->Act->World->Prop):Prop:=
 ∀al' G' a' w',To al G0 H w al' G' H' w'->HS al' G' H' w'->FS al' G' F' a'->Q (exD G' e) a' w'
theorem Pm.to {al1:Nat->Prop} {G0 G1:Gh} {H H1 H':CH} {w w1:World} {e:Ex} {F':Fr} {Q:Exit->Act->World->Prop} (h:Pm al G0 H w e F' H' Q) (ht:To al G0 H w al1 G1 H1 w1):Pm al1 G1 H1 w1 e F' H' Q:=
 λal' G' a' w' h1 h2 h3=>h al' G' a' w' (ht.trans h1) h2 h3
section
variable (P:Program)
def QK (c:Code) (F:Fr) (H:CH) (e:Ex) (F':Fr) (H':CH):Prop:=F'.q=F.q/\
 ∀(r:Option Nat) (nn:Nat) al G0 a w Q,QR al G0 F.q r->FS al G0 F a->HS al G0 H w->Pm al G0 H w e F' H' Q->c.wpIn (feR r) nn P Q a w
def Aiv (c:Code) (F:Fr) (H:CH) (e:Ex) (F':Fr) (H':CH):Prop:=F'.q=F.q/\
 ∀(r:Option Nat) (nn:Nat) al G0 a w Q,QR al G0 F.q r->FS al G0 F a->HS al G0 H w->Pm al G0 H w e F' H' Q->Z1 (feR r) nn P c Q a w
def ScS (s c:Code) (F:Fr) (H:CH) (e:Ex) (F':Fr) (H':CH):Prop:=F'.q=F.q/\
 ∀(r:Option Nat) (nn:Nat) al G0 a w Q,QR al G0 F.q r->FS al G0 F a->HS al G0 H w->Pm al G0 H w e F' H' Q->ScW (feR r) nn P s c Q a w
def RA (all:Array Oper) (l:List Oper) (F:Fr) (H:CH) (e:Ex) (F':Fr) (H':CH):Prop:=F'.q=F.q/\
 ∀(r:Option Nat) (nn:Nat) al G0 a w Q,QR al G0 F.q r->FS al G0 F a->HS al G0 H w->Pm al G0 H w e F' H' Q->wpListIn (feR r) nn P all Q l a w
def FnS (g:FuncId) (args:List Value) (H:CH) (e:Ex) (H':CH):Prop:=
 ∀(r:Option Nat) (nn:Nat) al G0 (vs:Array Value) w (R:Ending->World->Prop),(∀G,Ag al G0 G->vs=⟨args.map (den G)⟩)->HS al G0 H w->
  (∀al' G' w',To al G0 H w al' G' H' w'->HS al' G' H' w'->match e with
   | .val v=>∀u,(∀G,Ag al' G' G->u=den G v)->R (.returned u) w'
   | .panic v=>R (.panicked [{v:=den G' v,recovered:=false}]) w'
   |_=>True)->(∃v,e=.val v)\/(∃v,e=.panic v)->CallsIn (feR r) nn P g vs w R
end
section
variable (P:Program)
def YW (ops:Array Oper) (F:Fr) (H:CH) (e:Ex) (F':Fr) (H':CH):Prop:=F'.q=F.q/\
 ∀(id:Nat) (r:Option Nat) (nn:Nat) al G0 a w Q,QR al G0 F.q r->FS al G0 F a->HS al G0 H w->Pm al G0 H w e F' H' Q->(Code.region id ops true).wpIn (feR r) nn P Q a w
def Alu (l:List Deferred) (H:CH) (e:Ex) (H':CH):Prop:=e=.normal/\
 ∀(nn:Nat) (fn:Func) (tm:Array Value) al G0 w (R:Ending->World->Prop) (ds:List Deferred),(∀G,Ag al G0 G->ds=l.map (Ve G))->HS al G0 H w->
  (∀al' G' w',To al G0 H w al' G' H' w'->HS al' G' H' w'->LeavesInM Fence.wide nn P fn tm R [] .returning w')->LeavesInM Fence.wide nn P fn tm R ds .returning w
def Anp:Task->Fr->CH->Ex->Fr->CH->Prop
 | .fn g args,_,H,e,_,H'=>FnS P g args H e H'
 | .code c,F,H,e,F',H'=>QK P c F H e F' H'
 | .lp b,F,H,e,F',H'=>Aiv P b F H e F' H'
 | .sc b c,F,H,e,F',H'=>ScS P b c F H e F' H'
 | .defers l,_,H,e,_,H'=>Alu P l H e H'
variable {β:Type} (z:β)
def Lf (ih:Ev β):Prop:=∀t F H K,ih t F H K=z\/∃e F' H',ih t F H K=K e F' H'/\Anp P t F H e F' H'
variable {P} {z} {ih:Ev β}
theorem Si (hs:Lf P z ih) (hops:∀(ops:Array Oper) (F:Fr) (H:CH) (K:E5 β),(CP P z ops ops.toList).f ih F H K=z\/∃e F' H',(CP P z ops ops.toList).f ih F H K=K e F' H'/\RA P ops ops.toList F H e F' H')
  (hdraw:∀(ops:Array Oper) (F:Fr) (H:CH) (K:E5 β),Z5 P z ih ops F H K=z\/∃e F' H',Z5 P z ih ops F H K=K e F' H'/\YW P ops F H e F' H')
  (hr:∀f (ps:Array Tmp) x y F H K,BN P z ih f ps.toList x y F H K=z\/∃e F' H',BN P z ih f ps.toList x y F H K=K e F' H'/\QK P (.rangeFunc f ps x y) F H e F' H'):
  ∀(c:Code) (F:Fr) (H:CH) (K:E5 β),(Q9 P z c).f ih F H K=z\/∃e F' H',(Q9 P z c).f ih F H K=K e F' H'/\QK P c F H e F' H'
 | .skip,F,H,K=>.inr ⟨.normal,F,H,I,I,λr nn al G0 a w Q hq hf hS hT=>wpIn_skip (hT al G0 a w .rfl hS hf)⟩
 | .label l,F,H,K=>.inr ⟨.normal,F,H,I,I,λr nn al G0 a w Q hq hf hS hT=>wpIn_label (hT al G0 a w .rfl hS hf)⟩
 | .ret,F,H,K=>.inr ⟨.ret,F,H,I,I,λr nn al G0 a w Q hq hf hS hT=>wpIn_ret (hT al G0 a w .rfl hS hf)⟩
 | .exit id,F,H,K=>.inr ⟨.exit id,F,H,I,I,λr nn al G0 a w Q hq hf hS hT=>wpIn_exit (hT al G0 a w .rfl hS hf)⟩
 | .goto l,F,H,K=>.inr ⟨.goto l,F,H,I,I,λr nn al G0 a w Q hq hf hS hT=>wpIn_goto (hT al G0 a w .rfl hS hf)⟩
 | .refuse why,F,H,K=>.inl I
 | .region id ops d,F,H,K=>by
  cases d with
  |false=>
   rcases hops ops F H K with h|⟨e,F',H',h,h1,h2⟩
   ·exact .inl h
   ·refine .inr ⟨e,F',H',h,h1,λr nn al G0 a w Q hq hf hS hT=>wpIn_region_list (h2 r nn al G0 a w Q hq hf hS hT)⟩
  |true=>
   rcases hdraw ops F H K with h|⟨e,F',H',h,h1,h2⟩
   ·exact .inl h
   ·exact .inr ⟨e,F',H',h,h1,λr nn al G0 a w Q hq hf hS hT=>h2 id r nn al G0 a w Q hq hf hS hT⟩
 | .seq x y,F,H,K=>by
  have e0:(Q9 P z (.seq x y)).f ih F H K=(Q9 P z x).f ih F H (Ah5 ih (Q9 P z y) K):=rfl;rw[e0];rcases Si hs hops hdraw hr x F H (Ah5 ih (Q9 P z y) K) with h|⟨e,F1,H1,h,h1,h2⟩
  ·exact .inl h
  ·cases e with
   |normal=>
    rcases Si hs hops hdraw hr y F1 H1 K with h3|⟨e2,F2,H2,h3,h4,h5⟩
    ·exact .inl (h.trans h3)
    ·refine .inr ⟨e2,F2,H2,h.trans h3,h4.trans h1,λr nn al G0 a w Q hq hf hS hT=>wpIn_seq (h2 r nn al G0 a w _ hq hf hS λal' G' a' w' t1 t2 t3=>?_)⟩;exact h5 r nn al' G' a' w' Q (by rw[h1];exact hq.to t1) t3 t2 (hT.to t1)
   |_=>exact .inr ⟨_,F1,H1,h,h1,λr nn al G0 a w Q hq hf hS hT=>wpIn_seq (h2 r nn al G0 a w _ hq hf hS λal' G' a' w' t1 t2 t3=>hT al' G' a' w' t1 t2 t3)⟩
 | .cond c x y,F,H,K=>by
  have e0:Q9 P z (.cond c x y)=match C3 c with
   |true=>⟨λih F H K=>ZJ z ih (evT F.T c) (Q9 P z x) (Q9 P z y) F H K⟩
   |false=>⟨λ_ _ _ _=>z⟩:=I
  rw[e0];cases hc:C3 c with
  |false=>exact .inl I
  |true=>
   dsimp only;unfold ZJ;split
   ·rename_i v hv;split
    ·rcases Si hs hops hdraw hr x F H K with h|⟨e,F',H',h,h1,h2⟩
     ·exact .inl h
     ·refine .inr ⟨e,F',H',h,h1,λr nn al G0 a w Q hq hf hS hT=>wpIn_cond_true ?_ (h2 r nn al G0 a w Q hq hf hS hT)⟩;have e1:=Cz (hf G0 .rfl).1 hc;rw[hv] at e1;exact e1
    ·rcases Si hs hops hdraw hr y F H K with h|⟨e,F',H',h,h1,h2⟩
     ·exact .inl h
     ·refine .inr ⟨e,F',H',h,h1,λr nn al G0 a w Q hq hf hS hT=>wpIn_cond_false ?_ (h2 r nn al G0 a w Q hq hf hS hT)⟩;have e1:=Cz (hf G0 .rfl).1 hc;rw[hv] at e1;exact e1
   ·exact .inl I
 | .block id x,F,H,K=>by
  have e0:(Q9 P z (.block id x)).f ih F H K=(Q9 P z x).f ih F H (Y4 id K):=I;rw[e0];rcases Si hs hops hdraw hr x F H (Y4 id K) with h|⟨e,F1,H1,h,h1,h2⟩
  ·exact .inl h
  ·cases e with
   |exit i=>
    by_cases hi:i=id
    ·subst hi;have h':(Q9 P z x).f ih F H (Y4 i K)=K .normal F1 H1:=h.trans (by simp[Y4]);exact .inr ⟨_,F1,H1,h',h1,λr nn al G0 a w Q hq hf hS hT=>wpIn_block (h2 r nn al G0 a w _ hq hf hS λal' G' a' w' t1 t2 t3=>by
      simp only[exD,Exit.inBlock,If];exact hT al' G' a' w' t1 t2 t3)⟩
    ·have h':(Q9 P z x).f ih F H (Y4 id K)=K (.exit i) F1 H1:=h.trans (by
      have:Nat.beq i id=false:=by
       cases hb:Nat.beq i id with
       |true=>exact absurd (Bq hb) hi
       |false=>rfl
      simp only[Y4,this])
     exact .inr ⟨_,F1,H1,h',h1,λr nn al G0 a w Q hq hf hS hT=>wpIn_block (h2 r nn al G0 a w _ hq hf hS λal' G' a' w' t1 t2 t3=>by
      simp only[exD,Exit.inBlock,hi,Mu];exact hT al' G' a' w' t1 t2 t3)⟩
   |_=>exact .inr ⟨_,F1,H1,h,h1,λr nn al G0 a w Q hq hf hS hT=>wpIn_block (h2 r nn al G0 a w _ hq hf hS λal' G' a' w' t1 t2 t3=>hT al' G' a' w' t1 t2 t3)⟩
 | .loop x,F,H,K=>by
  rcases hs (.lp x) F H K with h|⟨e,F',H',h,h1,h2⟩
  ·exact .inl h
  ·exact .inr ⟨e,F',H',h,h1,λr nn al G0 a w Q hq hf hS hT=>(h2 r nn al G0 a w Q hq hf hS hT).loop⟩
 | .scope x,F,H,K=>by
  rcases hs (.sc x x) F H K with h|⟨e,F',H',h,h1,h2⟩
  ·exact .inl h
  ·exact .inr ⟨e,F',H',h,h1,λr nn al G0 a w Q hq hf hS hT=>(h2 r nn al G0 a w Q hq hf hS hT).scope⟩
 | .rangeFunc f ps x y,F,H,K=>hr f ps x y F H K
theorem Aas (hs:Lf P z ih) (c:Code) (F:Fr) (H:CH) (K:E5 β):ih (.code c) F H (QS ih c K)=z\/∃e F' H',ih (.code c) F H (QS ih c K)=K e F' H'/\Aiv P c F H e F' H':=by
 rcases hs (.code c) F H (QS ih c K) with h|⟨e,F1,H1,h,h1,h2⟩
 ·exact .inl h
 ·cases e with
  |normal=>
   rcases hs (.lp c) F1 H1 K with h3|⟨e2,F2,H2,h3,h4,h5⟩
   ·exact .inl (h.trans h3)
   ·refine .inr ⟨e2,F2,H2,h.trans h3,h4.trans h1,λr nn al G0 a w Q hq hf hS hT=>Z1.turn (h2 r nn al G0 a w _ hq hf hS λal' G' a' w' t1 t2 t3=>?_)⟩;exact h5 r nn al' G' a' w' Q (by rw[h1];exact hq.to t1) t3 t2 (hT.to t1)
  |_=>exact .inr ⟨_,F1,H1,h,h1,λr nn al G0 a w Q hq hf hS hT=>Z1.turn (h2 r nn al G0 a w _ hq hf hS λal' G' a' w' t1 t2 t3=>hT al' G' a' w' t1 t2 t3)⟩
theorem Ah3 (hs:Lf P z ih) (s c:Code) (F:Fr) (H:CH) (K:E5 β):scK ih s c F H K=z\/∃e F' H',scK ih s c F H K=K e F' H'/\ScS P s c F H e F' H':=by
 rcases hs (.code c) F H (scC ih s K) with h|⟨e,F1,H1,h,h1,h2⟩
 ·exact .inl h
 ·cases e with
  |goto l=>
   cases hl:findLabel s l with
   |some rest=>
    rcases hs (.sc s rest) F1 H1 K with h3|⟨e2,F2,H2,h3,h4,h5⟩
    ·exact .inl (h.trans (by simp only[scC,hl];exact h3))
    ·refine .inr ⟨e2,F2,H2,h.trans (by simp only[scC,hl];exact h3),h4.trans h1,λr nn al G0 a w Q hq hf hS hT=>ScW.turn (h2 r nn al G0 a w _ hq hf hS λal' G' a' w' t1 t2 t3=>?_)⟩;simp only[exD,LK,hl];exact h5 r nn al' G' a' w' Q (by rw[h1];exact hq.to t1) t3 t2 (hT.to t1)
   |none=>
    have h':scK ih s c F H K=K (.goto l) F1 H1:=h.trans (by simp only[scC,hl]);refine .inr ⟨_,F1,H1,h',h1,λr nn al G0 a w Q hq hf hS hT=>ScW.turn (h2 r nn al G0 a w _ hq hf hS λal' G' a' w' t1 t2 t3=>?_)⟩;simp only[exD,LK,hl];exact hT al' G' a' w' t1 t2 t3
  |_=>exact .inr ⟨_,F1,H1,h,h1,λr nn al G0 a w Q hq hf hS hT=>ScW.turn (h2 r nn al G0 a w _ hq hf hS λal' G' a' w' t1 t2 t3=>hT al' G' a' w' t1 t2 t3)⟩
end
end Go.Proofs.YtjofafbkkpdgbaaGreat.Ck
