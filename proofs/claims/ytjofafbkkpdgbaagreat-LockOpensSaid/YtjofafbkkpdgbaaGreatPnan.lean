/- A part of the proof of LockOpens: rules and contracts. No condition. -/
import Derived.Test.YtjofafbkkpdgbaaGreatPnam
set_option maxRecDepth 100000
set_option maxHeartbeats 4000000
set_option linter.all false
namespace Go.Proofs.YtjofafbkkpdgbaaGreat
open Go.Proofs.Tryz
open Go.RowKit Go.Shelf
theorem KJ (a b:Int):El a b=El b a:=by
 have e1:(a=0\/b=0)=(b=0\/a=0):=propext Or.comm;have e2:(a=5\/b=5)=(b=5\/a=5):=propext Or.comm;have e3:(a=1\/b=1)=(b=1\/a=1):=propext Or.comm;unfold El;simp only[e1,e2,e3];by_cases h1:b=0\/a=0
 ·rw[Bi h1,Bi h1]
 rw[Ar h1,Ar h1];by_cases h2:b=5\/a=5
 ·rw[Bi h2,Bi h2]
 rw[Ar h2,Ar h2];by_cases h3:b=1\/a=1
 ·rw[Bi h3,Bi h3]
 rw[Ar h3,Ar h3,Be];simp only[Ad,Aq];constructor
 ·rintro ⟨rfl,h⟩;exact⟨I,h⟩
 ·rintro ⟨rfl,h⟩;exact⟨I,h⟩
theorem SC:El 5 5=false:=by decide
def Dv (u:Wu):Hd:=⟨u.w.site,u.w.use,u.w.mode⟩
def Ol (x:Tok) (u:Wu):Tok:= {x with q:=F9 x.q u.pos.toNat u.w.mode,hs:=Is x.hs (Dv u)}
theorem Ahb {c:Int} {q:List Wt} {held:List Int} {u:Wu} (h:Kt c q held=some u):∃i:Nat,u.pos=i/\q[i]? =some u.w/\Q3 c q held u=true/\D5 q=true:=by
 unfold Kt at h;cases hb:(D5 q&&O1 c&&held.all Dt)
 ·rw[hb] at h;cases h
 rw[hb,Ci] at h;simp only[Ad] at hb;have hm:=M9 h;rw[TM (by have:=Ft.1 hb.1.1;rw[A6];exact this.2.1)] at hm;obtain⟨i,w,h1,h2⟩:=Y0.1 hm;exact⟨i,by rw[h2],by rw[h2];exact h1,U4 h,hb.1.1⟩
theorem BA (m:Int) (w:Wt):(M6 m w).site=w.site/\(M6 m w).use=w.use:=by
 unfold M6;cases El w.mode m<;>exact⟨I,I⟩
theorem Ad5 {m:Int} {w:Wt} (h:wtB w=true):wtB (M6 m w)=true:=by
 unfold M6;cases El w.mode m
 ·simp only[wtB,By,Ad,Aq] at h⊢;split<;>omega
 ·exact h
theorem CC {q:List Wt} {i:Nat} {m:Int} {w:Wt} (h:w∈F9 q i m):∃v j,j≠i/\q[j]? =some v/\v.site=w.site/\v.use=w.use/\(wtB v=true->wtB w=true):=by
 rcases B4.1 h with h|h
 ·obtain⟨v,hv,rfl⟩:=Cd.1 h;obtain⟨j,hj⟩:=B6.1 hv;rw[Kz] at hj;split at hj
  ·exact⟨v,j,tqO,hj,(BA m v).1.symm,(BA m v).2.symm,Ad5⟩
  ·cases hj
 ·obtain⟨j,hj⟩:=B6.1 h;rw[E3] at hj;exact⟨w,_,tqO,hj,I,I,id⟩
theorem SH (q:List Wt) (i:Nat) (m:Int):(F9 q i m).map Wt.site=(q.map Wt.site).eraseIdx i:=by
 unfold F9;rw[D6,Fp,Ix,Ir,Ko]
 congr 1
 rw[<-Ir,<-Ir];exact Gv λw _=>(BA m w).1
variable {hs:List Hd}
theorem IA {x y:Hd}:y∈Is hs x↔y=x\/y∈hs:=by
 unfold Is;simp only[B4,Ap,De];constructor
 ·rintro (h|h|h)
  ·exact .inr h.1
  ·exact .inl h
  ·exact .inr h.1
 ·rintro (h|h)
  ·exact .inr (.inl h)
  ·by_cases e:y.site<x.site
   ·exact .inl ⟨h,by simpa using e⟩
   ·exact .inr (.inr ⟨h,by simpa using e⟩)
theorem Ajf {x:Hd} (h:Ff hs=true) (hx:hdB x=true) (hn:hs.any (C9 x.site)=false) (hf:∀y∈hs,El x.mode y.mode=true):Ff (Is hs x)=true:=by
 obtain⟨h1,h2,h3⟩:=Mn.1 h;have hne:∀y∈hs,y.site≠x.site:=λy hy e=>by
  have:=Gy.1 hn y hy;simp[C9,e] at this
 refine Mn.2 ⟨λy hy=>?_,?_,?_⟩
 ·rcases IA.1 hy with rfl|hy
  ·exact hx
  ·exact h1 y hy
 ·refine Hw.2 ⟨h2.filter _,Xd.2 ⟨λy hy=>?_,h2.filter _⟩,λy hy z hz=>?_⟩
  ·obtain⟨m1,m2⟩:=De.1 hy;have:=hne y m1;simp at m2;omega
  ·obtain⟨m1,m2⟩:=De.1 hy;simp at m2;rcases Ap.1 hz with rfl|hz
   ·exact m2
   ·obtain⟨k1,k2⟩:=De.1 hz;simp at k2;omega
 ·refine Hw.2 ⟨h3.filter _,Xd.2 ⟨λy hy=>?_,h3.filter _⟩,λy hy z hz=>?_⟩
  ·rw[KJ];exact hf y (De.1 hy).1
  ·obtain⟨m1,m2⟩:=De.1 hy;simp at m2;rcases Ap.1 hz with rfl|hz
   ·exact hf y m1
   ·obtain⟨k1,k2⟩:=De.1 hz;simp at k2;obtain⟨a,ha⟩:=B6.1 m1;obtain⟨b,hb⟩:=B6.1 k1;obtain⟨g1,e1⟩:=Aa.1 ha;obtain⟨g2,e2⟩:=Aa.1 hb;have hab:a<b:=by
     rcases Nat.lt_trichotomy a b with g|g|g
     ·exact g
     ·subst g;rw[e1] at e2;subst e2;omega
     ·have:=Ds.1 h2 b a g2 g1 g;rw[e1,e2] at this;omega
    have:=Ds.1 h3 a b g1 g2 hab;rw[e1,e2] at this;exact this
theorem Afx {u:Wu} (h:wtB u.w=true):hdB (Dv u)=true:=by
 simp only[wtB,Ad,Aq] at h;simp[hdB,Dv,h]
structure GrtH (n l s:Int) (x:Tok) (u:Wu):Prop where
 wait:D5 x.q=true
 at_:∃i:Nat,u.pos=i/\x.q[i]? =some u.w
 hd:hdB (Dv u)=true
 no:x.hs.any (C9 u.w.site)=false
 fit:x.hs.any (Rm u.w.mode)=false
 ok:Fq n l s (Ol x u)=true
theorem GrtH.of {n l s c:Int} {x:Tok} {u:Wu} (hx:Fq n l s x=true) (hu:Kt c x.q (Et x.hs)=some u):GrtH n l s x u:=by
 obtain⟨i,k1,k2,k3,k4⟩:=Ahb hu;have hX:=hx;simp only[Fq,Ad,A6,Aq,Kq] at hX;obtain⟨⟨⟨⟨⟨⟨⟨⟨⟨h1,h2⟩,h3⟩,h4⟩,h5⟩,h6⟩,h7⟩,h8⟩,h9⟩,h10⟩:=hX;have hw:=(Ft.1 h4).2.1 u.w (Av k2);have hq:=h9 u.w (Av k2);have hno:x.hs.any (C9 u.w.site)=false:=by simpa using hq.2
 have hfit:∀y∈x.hs,El u.w.mode y.mode=true:=λy hy=>by
  simp only[Q3,Ad,A6] at k3;exact k3.1 y.mode (Cd.2 ⟨y,hy,I⟩)
 have hH:Ff (Is x.hs (Dv u))=true:=Ajf h6 (Afx hw) hno hfit;have hsite:∀w∈F9 x.q i u.w.mode,w.site≠u.w.site:=λw hw e=>by
  obtain⟨v,j,j1,j2,j3,_⟩:=CC hw;exact j1 (FH h4 j2 k2 (by rw[j3,e]))
 refine⟨k4,⟨i,k1,k2⟩,Afx hw,hno,?_,?_⟩
 ·rw[Gy];intro y hy;have e1:Dt y.mode=true:=by
   have:=(Mn.1 h6).1 y hy;simp only[hdB,Ad,Aq] at this;simp only[Dt,Ad,Aq];omega
  have e2:Dt u.w.mode=true:=by
   simp only[wtB,Ad,Aq] at hw;simp only[Dt,Ad,Aq];omega
  simp[Rm,e1,e2,KJ y.mode,hfit y hy]
 ·have ei:u.pos.toNat=i:=by omega
  simp only[Fq,Ad,A6,Aq,Kq];refine⟨⟨⟨⟨⟨⟨⟨⟨⟨h1,h2⟩,h3⟩,?_⟩,Uk hH⟩,hH⟩,h7⟩,h8⟩,λw hw=>?_⟩,λh hh=>?_⟩
  ·show D5 (F9 x.q u.pos.toNat u.w.mode)=true
   rw[ei];refine JL (λw hw=>?_) ?_
   ·obtain⟨v,j,_,j2,_,_,j5⟩:=CC hw;exact j5 ((Ft.1 h4).2.1 v (Av j2))
   ·rw[SH];exact((Ft.1 h4).2.2).sublist (List.eraseIdx_sublist _ _)
  ·replace hw:w∈F9 x.q i u.w.mode:=by rw[<-ei];exact hw
   obtain⟨v,j,j1,j2,j3,j4,_⟩:=CC hw;have g:=h9 v (Av j2);rw[j3,j4] at g;refine⟨g.1,?_⟩;show (!(Is x.hs (Dv u)).any (C9 w.site))=true
   rw[Ei,Gy];intro y hy;rcases IA.1 hy with rfl|hy
   ·have:=hsite w hw;simp[C9,Dv];omega
   ·exact Gy.1 (by simpa using g.2) y hy
  ·show Gm x.seq h.site h.use=true
   rcases IA.1 hh with rfl|hh
   ·exact hq.1
   ·exact h10 h hh
def wrH (h:Hd):Bool:=h.mode == 5
def L3 (s me:Int) (x:Tok):Option Int:=bif x.hs.any wrH&& !((Hk wrH x.hs).site.tdiv s == me) then some ((Hk wrH x.hs).site.tdiv s) else none
theorem Alo (h:Ff hs=true) {i j:Nat} {x y:Hd} (hx:hs[i]? =some x) (hy:hs[j]? =some y) (h1:wrH x=true) (h2:wrH y=true):i=j:=by
 have h3:=(Mn.1 h).2.2;obtain⟨g1,e1⟩:=Aa.1 hx;obtain⟨g2,e2⟩:=Aa.1 hy;have f1:x.mode=5:=by simpa [wrH] using h1
 have f2:y.mode=5:=by simpa [wrH] using h2
 rcases Nat.lt_trichotomy i j with g|g|g
 ·have:=Ds.1 h3 i j g1 g2 g;rw[e1,e2,f1,f2,SC] at this;cases this
 ·exact g
 ·have:=Ds.1 h3 j i g2 g1 g;rw[e1,e2,f1,f2,SC] at this;cases this
theorem Anl (h:Ff hs=true) {i:Nat} {x:Hd} (hx:hs[i]? =some x) (h1:wrH x=true):hs.any wrH=true/\Hk wrH hs=x:=by
 have ha:hs.any wrH=true:=Jr.2 ⟨x,Av hx,h1⟩;have h0:0<=Hl wrH hs:=by rw[<-Hq] at ha;simpa using ha
 obtain⟨j,y,hj,hy,hp⟩:=Rr h0;have:=Alo h hy hx hp h1;subst this;rw[hx] at hy;cases hy;exact⟨ha,by unfold Hk;rw[Bi h0,hj];simp[D1,hx]⟩
theorem Ob (b:Bool) (e:Int):Cm prog 61 [.bool b,.int .i64 e] [] [] (CL 45 b e):=by
 refine tqm [.o (.v (.bool b)),.o (.v (.int .i64 e))] func61 ntmps61 λ_ _=>?_;cases b
 ·refine B8 (JO tqK I I) ?_;refine EF I I ?_;exact Jn [] I λ_=>⟨.inr ⟨I,I⟩,I⟩
 ·exact Al [] I2 λ_=>⟨.inl ⟨I,I⟩,I⟩
theorem G9 (b:Bool):Cm prog 24 [.bool b] [] [] (CL 45 b 2):=by
 refine tqm [.o (.v (.bool b))] func24 ntmps24 λ_ _=>?_;refine Aj [] [] I7 (λ_=>Ob b 2) ?_;rintro e cs F1 _ ⟨⟨rfl,rfl⟩|⟨rfl,rfl⟩,rfl⟩
 ·exact Al [] I2 λ_=>⟨.inl ⟨I,I⟩,I⟩
 ·exact Jn [] I λ_=>⟨.inr ⟨I,I⟩,I⟩
theorem SN {n k:Int}:inB k 0 (n- 1)=Fk n k:=by rw[Be];simp[inB,Fk];omega
theorem HB (p:Plc):Cm prog 23 [.agg (O8 p).toArray] [] [] (CL 45 (J9 p) 2):=by
 obtain⟨n,l,s,me,lock,limit,retry,far,now,still⟩:=p;refine tqm [.g [.v (.int .i64 n),.v (.int .i64 l),.v (.int .i64 s),.v (.int .i64 me),.v (.int .i64 lock),.v (.int .i64 limit),.v (.int .i64 retry),.v (.int .i64 far),.v (.int .i64 now),.v (.bool still)]] func23 ntmps23 λ_ _=>?_;have hP:J9 ⟨n,l,s,me,lock,limit,retry,far,now,still⟩=(Ef n l s&&(Fk n me&&Fk l lock)&&O1 limit&&Xa retry&&Xa far&&Iy now):=I;generalize J9 ⟨n,l,s,me,lock,limit,retry,far,now,still⟩=R at hP;refine tqc I5 (λ_=>Qz n l s) ?_;unfold Nu;cases hs:Ef n l s
 ·refine Aj [] [] I7 (λ_=>G9 false) ?_;rintro e cs F1 _ ⟨⟨h,_⟩|⟨_,rfl⟩,rfl⟩
  ·cases h
  ·exact Jn [] I λ_=>⟨.inr ⟨by rw[hP,hs];rfl,I⟩,I⟩
 obtain⟨e1,e2,e3⟩:=In hs;refine Aj [] [] I7 (λ_=>G9 true) ?_;rintro e cs F1 _ ⟨⟨_,rfl⟩|⟨h,_⟩,rfl⟩;rotate_left
 ·cases h
 refine Af (z:=n- 1) (hz:=by rw[Ey]<;>omega) (ho:=I) (hx:=I) (hy:=I) (hr:=I) ?_;refine tqc I5 (λ_=>Mo me 0 (n- 1)) ?_;rw[SN];cases h1:Fk n me
 ·refine Aj [] [] I7 (λ_=>G9 false) ?_;rintro e cs F1 _ ⟨⟨h,_⟩|⟨_,rfl⟩,rfl⟩
  ·cases h
  ·exact Jn [] I λ_=>⟨.inr ⟨by rw[hP,hs,h1];rfl,I⟩,I⟩
 refine Af (z:=l- 1) (hz:=by rw[Ey]<;>omega) (ho:=I) (hx:=I) (hy:=I) (hr:=I) ?_;refine tqc I5 (λ_=>Mo lock 0 (l- 1)) ?_;rw[SN];cases h2:Fk l lock
 ·refine Aj [] [] I7 (λ_=>G9 false) ?_;rintro e cs F1 _ ⟨⟨h,_⟩|⟨_,rfl⟩,rfl⟩
  ·cases h
  ·exact Jn [] I λ_=>⟨.inr ⟨by rw[hP,hs,h1,h2];rfl,I⟩,I⟩
 refine tqc I5 (λ_=>Mo limit 0 64) ?_;rw[show inB limit 0 64=O1 limit from I];cases h3:O1 limit
 ·refine Aj [] [] I7 (λ_=>G9 false) ?_;rintro e cs F1 _ ⟨⟨h,_⟩|⟨_,rfl⟩,rfl⟩
  ·cases h
  ·exact Jn [] I λ_=>⟨.inr ⟨by rw[hP,hs,h1,h2,h3];rfl,I⟩,I⟩
 refine Aj [] [] I7 (λ_=>G9 true) ?_;rintro e cs F1 _ ⟨⟨_,rfl⟩|⟨h,_⟩,rfl⟩;rotate_left
 ·cases h
 refine tqc I5 (λ_=>Mo retry 1 1099511627776) ?_;rw[show inB retry 1 1099511627776=Xa retry from I];cases h4:Xa retry
 ·refine Aj [] [] I7 (λ_=>G9 false) ?_;rintro e cs F1 _ ⟨⟨h,_⟩|⟨_,rfl⟩,rfl⟩
  ·cases h
  ·exact Jn [] I λ_=>⟨.inr ⟨by rw[hP,hs,h1,h2,h3,h4];rfl,I⟩,I⟩
 refine tqc I5 (λ_=>Mo far 1 1099511627776) ?_;rw[show inB far 1 1099511627776=Xa far from I];cases h5:Xa far
 ·refine Aj [] [] I7 (λ_=>G9 false) ?_;rintro e cs F1 _ ⟨⟨h,_⟩|⟨_,rfl⟩,rfl⟩
  ·cases h
  ·exact Jn [] I λ_=>⟨.inr ⟨by rw[hP,hs,h1,h2,h3,h4,h5];rfl,I⟩,I⟩
 refine Aj [] [] I7 (λ_=>G9 true) ?_;rintro e cs F1 _ ⟨⟨_,rfl⟩|⟨h,_⟩,rfl⟩;rotate_left
 ·cases h
 refine Aj [] [] I7 (λ_=>PR now) ?_;rintro e cs F1 _ ⟨pv,rfl,rfl⟩;cases h6:Iy now
 ·refine Aj [] [] I7 (λ_=>G9 false) ?_;rintro e cs F1 _ ⟨⟨h,_⟩|⟨_,rfl⟩,rfl⟩
  ·cases h
  ·exact Jn [] I λ_=>⟨.inr ⟨by rw[hP,hs,h1,h2,h3,h4,h5,h6];rfl,I⟩,I⟩
 refine Aj [] [] I7 (λ_=>G9 true) ?_;rintro e cs F1 _ ⟨⟨_,rfl⟩|⟨h,_⟩,rfl⟩;rotate_left
 ·cases h
 exact Al [] I2 λ_=>⟨.inl ⟨by rw[hP,hs,h1,h2,h3,h4,h5,h6];rfl,I⟩,I⟩
theorem Tryz.infoSta:(prog.info? 74).map (λi=>(i.zero,i.size,i.bytes))=some (some (.agg #[.int .i64 0,.bool false,.int .i64 0,.int .i64 0]),4,32):=tqK
theorem Tryz.infoSlt:(prog.info? 88).map (λi=>(i.zero,i.size,i.bytes))=some (some (.agg #[.int .i64 0,.int .i64 0,.int .i64 0,.int .i64 0,.int .i64 0,.int .i64 0,.int .i64 0,.int .u64 0]),8,64):=tqK
theorem Tryz.infoTry:(prog.info? 104).map (λi=>(i.zero,i.size,i.bytes))=some (some (.agg #[.int .i64 0,.int .i64 0,.int .i64 0]),3,24):=tqK
variable {xs:List Sta}
theorem My:∀u∈xs.flatMap Bv,u.oneCell'=true:=by
 intro u hu;obtain⟨x,_,hx⟩:=Jt.1 hu;simp only[Bv,Ap,Bw,Ed] at hx;rcases hx with rfl|rfl|rfl|rfl<;>rfl
theorem Hs {xs:List Slt}:∀u∈xs.flatMap Bm,u.oneCell'=true:=by
 intro u hu;obtain⟨x,_,hx⟩:=Jt.1 hu;simp only[Bm,Ap,Bw,Ed] at hx;rcases hx with rfl|rfl|rfl|rfl|rfl|rfl|rfl|rfl<;>rfl
theorem Jf {xs:List Try}:∀u∈xs.flatMap Bz,u.oneCell'=true:=by
 intro u hu;obtain⟨x,_,hx⟩:=Jt.1 hu;simp only[Bz,Ap,Bw,Ed] at hx;rcases hx with rfl|rfl|rfl<;>rfl
theorem DQ (w:World) (sv:Value) (xs:List Sta) (hlen:xs.length<=1099511627776) (hS:Sl Bv 4 w sv xs):
  Calls prog 81 #[sv] w λe w'=>∃v,e=.returned v/\w'.ownsRow w.heap.size 74 4 v xs.length (xs.flatMap Bv)/\Below w.heap.size w w':=by
 obtain⟨a,cap,rfl⟩:=hS.shape;obtain⟨i0,hi,hz0,hz1,hz2⟩:=Vn Tryz.infoSta;cases a with
 |none=>
  obtain rfl:=hS.nil_of_none;have heq:=λw'=>Fo (P:=prog) w' 36 74 none 0 cap 0 0 underlying36
  go_enter func81,ntmps81
  go_wp2
  go_ret
  exact⟨_,I,Kc _ _ _ _,Ga _ _⟩
 |some ad=>
  have heq:=λw'=>Fo (P:=prog) w' 36 74 (some ad) xs.length cap 0 0 underlying36;have hnews:=(hS.below (w':=w.alloc (.cells #[] 74)) (by(repeat (first|(with_reducible exact Ga _ _)|(with_reducible assumption)|(with_reducible refine Ti ?_ _)|(with_reducible refine P5 ?_)|((with_reducible refine Tg ?_ ?_ _);rotate_left;focus (first|(with_reducible exact Ak _)|omega|(simp;done)|(simp;omega)))|((with_reducible refine Qk (p:=⟨_,_,_⟩) ?_ ?_ _);rotate_left;focus (first|(with_reducible exact Ak _)|omega|(simp;done)|(simp;omega))))))).news Hh;have hfl:=Qv Hh xs;have Hfl:=Fm hfl;have Hnews:=Fm hnews;clear hfl hnews hS;have hown:=Ml (w:=w) (base:=w.heap.size) (e:=74) (size:=4) #[] 0 (Ak _) tqD I;have Hown:=Fm hown;clear hown
  go_enter func81,ntmps81
  go_wp2_with (at_builtin;refine M7 _ I _ _ 36 I w.heap.size 74 i0 (.agg #[.int .i64 0,.bool false,.int .i64 0,.int .i64 0]) 4 32 underlying36 hi hz0 hz1 hz2 I tqD _ _ _ I Hown.out ad xs.length cap (xs.flatMap Bv) I Hfl.out Hnews.out My (by unfold maxLen;omega) tqO tqS ?_;intro v' w1 hown' hgrow _;have hv':=Fm hown';clear hown')
  go_ret
  refine⟨v',I,by simpa using hv'.out,((Ga _ w).alloc (Ak _) _).grown hgrow tqS λk e=>?_⟩;have e1:w.heap.size=k:=Ij (show some w.heap.size=some k from e);omega
theorem DP (w:World) (sv:Value) (xs:List Slt) (hlen:xs.length<=1099511627776) (hS:Sl Bm 8 w sv xs):
  Calls prog 82 #[sv] w λe w'=>∃v,e=.returned v/\w'.ownsRow w.heap.size 88 8 v xs.length (xs.flatMap Bm)/\Below w.heap.size w w':=by
 obtain⟨a,cap,rfl⟩:=hS.shape;obtain⟨i0,hi,hz0,hz1,hz2⟩:=Vn Tryz.infoSlt;cases a with
 |none=>
  obtain rfl:=hS.nil_of_none;have heq:=λw'=>Fo (P:=prog) w' 37 88 none 0 cap 0 0 underlying37
  go_enter func82,ntmps82
  go_wp2
  go_ret
  exact⟨_,I,Kc _ _ _ _,Ga _ _⟩
 |some ad=>
  have heq:=λw'=>Fo (P:=prog) w' 37 88 (some ad) xs.length cap 0 0 underlying37;have hnews:=(hS.below (w':=w.alloc (.cells #[] 88)) (by(repeat (first|(with_reducible exact Ga _ _)|(with_reducible assumption)|(with_reducible refine Ti ?_ _)|(with_reducible refine P5 ?_)|((with_reducible refine Tg ?_ ?_ _);rotate_left;focus (first|(with_reducible exact Ak _)|omega|(simp;done)|(simp;omega)))|((with_reducible refine Qk (p:=⟨_,_,_⟩) ?_ ?_ _);rotate_left;focus (first|(with_reducible exact Ak _)|omega|(simp;done)|(simp;omega))))))).news Dy;have hfl:=Qv Dy xs;have Hfl:=Fm hfl;have Hnews:=Fm hnews;clear hfl hnews hS;have hown:=Ml (w:=w) (base:=w.heap.size) (e:=88) (size:=8) #[] 0 (Ak _) tqD I;have Hown:=Fm hown;clear hown
  go_enter func82,ntmps82
  go_wp2_with (at_builtin;refine M7 _ I _ _ 37 I w.heap.size 88 i0 (.agg #[.int .i64 0,.int .i64 0,.int .i64 0,.int .i64 0,.int .i64 0,.int .i64 0,.int .i64 0,.int .u64 0]) 8 64 underlying37 hi hz0 hz1 hz2 I tqD _ _ _ I Hown.out ad xs.length cap (xs.flatMap Bm) I Hfl.out Hnews.out Hs (by unfold maxLen;omega) tqO tqS ?_;intro v' w1 hown' hgrow _;have hv':=Fm hown';clear hown')
  go_ret
  refine⟨v',I,by simpa using hv'.out,((Ga _ w).alloc (Ak _) _).grown hgrow tqS λk e=>?_⟩;have e1:w.heap.size=k:=Ij (show some w.heap.size=some k from e);omega
theorem RK (w:World) (sv:Value) (xs:List Try) (hlen:xs.length<=1099511627776) (hS:Sl Bz 3 w sv xs):
  Calls prog 83 #[sv] w λe w'=>∃v,e=.returned v/\w'.ownsRow w.heap.size 104 3 v xs.length (xs.flatMap Bz)/\Below w.heap.size w w':=by
 obtain⟨a,cap,rfl⟩:=hS.shape;obtain⟨i0,hi,hz0,hz1,hz2⟩:=Vn Tryz.infoTry;cases a with
 |none=>
  obtain rfl:=hS.nil_of_none;have heq:=λw'=>Fo (P:=prog) w' 38 104 none 0 cap 0 0 underlying38
  go_enter func83,ntmps83
  go_wp2
  go_ret
  exact⟨_,I,Kc _ _ _ _,Ga _ _⟩
 |some ad=>
  have heq:=λw'=>Fo (P:=prog) w' 38 104 (some ad) xs.length cap 0 0 underlying38;have hnews:=(hS.below (w':=w.alloc (.cells #[] 104)) (by(repeat (first|(with_reducible exact Ga _ _)|(with_reducible assumption)|(with_reducible refine Ti ?_ _)|(with_reducible refine P5 ?_)|((with_reducible refine Tg ?_ ?_ _);rotate_left;focus (first|(with_reducible exact Ak _)|omega|(simp;done)|(simp;omega)))|((with_reducible refine Qk (p:=⟨_,_,_⟩) ?_ ?_ _);rotate_left;focus (first|(with_reducible exact Ak _)|omega|(simp;done)|(simp;omega))))))).news Fh;have hfl:=Qv Fh xs;have Hfl:=Fm hfl;have Hnews:=Fm hnews;clear hfl hnews hS;have hown:=Ml (w:=w) (base:=w.heap.size) (e:=104) (size:=3) #[] 0 (Ak _) tqD I;have Hown:=Fm hown;clear hown
  go_enter func83,ntmps83
  go_wp2_with (at_builtin;refine M7 _ I _ _ 38 I w.heap.size 104 i0 (.agg #[.int .i64 0,.int .i64 0,.int .i64 0]) 3 24 underlying38 hi hz0 hz1 hz2 I tqD _ _ _ I Hown.out ad xs.length cap (xs.flatMap Bz) I Hfl.out Hnews.out Jf (by unfold maxLen;omega) tqO tqS ?_;intro v' w1 hown' hgrow _;have hv':=Fm hown';clear hown')
  go_ret
  refine⟨v',I,by simpa using hv'.out,((Ga _ w).alloc (Ak _) _).grown hgrow tqS λk e=>?_⟩;have e1:w.heap.size=k:=Ij (show some w.heap.size=some k from e);omega
theorem WC (a:Option Addr) (cap:Nat) (xs:List Sta) (hlen:xs.length<=1099511627776):Co prog 81 [.slice a xs.length cap] [slF Bv 4 (.slice a xs.length cap) xs] id 74 4 xs.length (xs.flatMap Bv):=
 λ_ w hA hF=>DQ w _ xs hlen (Qp (hF _ (Bc.2 I)) hA)
theorem GR (a:Option Addr) (cap:Nat) (xs:List Slt) (hlen:xs.length<=1099511627776):Co prog 82 [.slice a xs.length cap] [slF Bm 8 (.slice a xs.length cap) xs] id 88 8 xs.length (xs.flatMap Bm):=
 λ_ w hA hF=>DP w _ xs hlen (Qp (hF _ (Bc.2 I)) hA)
theorem WD (a:Option Addr) (cap:Nat) (xs:List Try) (hlen:xs.length<=1099511627776):Co prog 83 [.slice a xs.length cap] [slF Bz 3 (.slice a xs.length cap) xs] id 104 3 xs.length (xs.flatMap Bz):=
 λ_ w hA hF=>RK w _ xs hlen (Qp (hF _ (Bc.2 I)) hA)
def Ur (x:Try):Bool:=(decide (-1<=x.sent)&&decide (x.sent<=1099511627776))&&Iy x.heard&&Lk x.over
variable {F0:List Fact} {lb:List Value}
theorem Adq {g:Nat} (hg:Ah tb.fn g=some ()) (p:Try->Bool) {a:Option Addr} {cap:Nat} {xs:List Try} (hlen:xs.length<=1099511627776) (hc:∀x∈xs,Cm prog g (.agg (Bz x).toArray::lb) [] F0 (Bd (.bool (p x)))):
  Cm prog 218 [.slice a xs.length cap,.func (.func g) #[] lb.toArray] [] (slF Bz 3 (.slice a xs.length cap) xs::F0) (Bd (.int .i64 (Hl p xs))):=by
 refine tqm [.o (.v (.slice a xs.length cap)),.o (.v (.func (.func g) #[] lb.toArray))] func218 ntmps218 λ_ _=>?_;refine Br (γ:=Nat) (λk=>k<=xs.length/\∀(j:Nat) x,j<k->xs[j]? =some x->p x=false) (λk=>[(8,.o (.v (.int .i64 k)))]) (λ_=>[]) (λ_=>[]) (λk=>xs.length- k) 0 ⟨Ax _,λj x hj=>by omega⟩ Ac ?_;rintro k ⟨hk,hno⟩;refine Ai (λh1=>?_) λh1=>?_
 ·obtain⟨x,hx⟩:=A9 (xs:=xs) (k:=k)
  skip
  refine Dk (slF Bz 3 (.slice a xs.length cap) xs) (B1 hx) ?_;rintro ⟨b,off,rfl⟩;refine Au Bb ?_;refine Au (Cu (vs:=Bz x) (slF Bz 3 (.slice (some ⟨b,off,none⟩) xs.length cap) xs) (Du hx)) ?_;have hc2:∀ρ:Nm,Cm prog g (Gn ρ [] [TV.g [.v (.int .i64 x.sent),.v (.int .i64 x.heard),.v (.int .i64 x.over)]] (lb.map PV.v)) [] F0 (Bd (.bool (p x))):=λρ=>by
   have e:Gn ρ [] [TV.g [.v (.int .i64 x.sent),.v (.int .i64 x.heard),.v (.int .i64 x.over)]] (lb.map PV.v)=.agg (Bz x).toArray::lb:=(Qs ρ [TV.g [.v (.int .i64 x.sent),.v (.int .i64 x.heard),.v (.int .i64 x.over)]] lb).trans I;rw[e];exact hc x (Av hx)
  refine tqc ⟨I,I,I,I,hg⟩ (λρ=>hc2 ρ) (hF0:=λf hf=>B3 _ hf) ?_;cases hb:p x
  ·refine Af (z:=(k+1:Nat)) ?_;refine⟨k+1,⟨tqO,λj y hj hy=>?_⟩,tqP,Ac⟩;rcases Bg.1 hj with h|rfl
   ·exact hno j y h hy
   ·rw[hx] at hy;cases hy;exact hb
  ·exact Al [] I2 λ_=>⟨by rw[No hno hx hb];rfl,I⟩
 ·obtain rfl:k=xs.length:=by omega
  exact Al [] I2 λ_=>⟨by rw[Mg λj x hj=>hno j x (Aa.1 hj).1 hj];rfl,I⟩
theorem Adp {g:Nat} (hg:Ah tb.fn g=some ()) (p:Try->Bool) {a:Option Addr} {cap:Nat} {xs:List Try} (hlen:xs.length<=1099511627776) (hc:∀x∈xs,Cm prog g (.agg (Bz x).toArray::lb) [] F0 (Bd (.bool (p x)))):
  Cm prog 145 [.slice a xs.length cap,.func (.func g) #[] lb.toArray] [] (slF Bz 3 (.slice a xs.length cap) xs::F0) (Bd (.bool (xs.any p))):=by
 refine tqm [.o (.v (.slice a xs.length cap)),.o (.v (.func (.func g) #[] lb.toArray))] func145 ntmps145 λ_ _=>?_;refine tqc I5 (λ_=>Adq hg p hlen hc) ?_;exact Al [] I2 λ_=>⟨Bx Hq,I⟩
theorem Ain (x:Try):Cm prog 146 [.agg (Bz x).toArray] [] [] (Bd (.bool (!Ur x))):=by
 obtain⟨a,b,c⟩:=x;refine tqm [.g [.v (.int .i64 a),.v (.int .i64 b),.v (.int .i64 c)]] func146 ntmps146 λ_ _=>?_;have hT:Ur ⟨a,b,c⟩=(inB a (-1) 1099511627776&&inB b 0 1099511627776&&inB c 0 1099511627776):=I;rw[hT];refine tqc I5 (λ_=>Mo a (-1) 1099511627776) ?_;cases inB a (-1) 1099511627776
 ·exact tqE
 refine tqc I5 (λ_=>Mo b 0 1099511627776) ?_;cases inB b 0 1099511627776
 ·exact tqE
 refine tqc I5 (λ_=>Mo c 0 1099511627776) ?_;cases inB c 0 1099511627776
 ·exact tqE
 ·exact tqE
theorem UQ (x:Slt) (h: -9223372036854775807<=x.use/\x.use<=9223372036854775807):Cm prog 50 [.agg (Bm x).toArray] [] [] (Bd (.agg (Bv (Iz x)).toArray)):=by
 obtain⟨use,state,mode,prio,due,⟨v,f,vn⟩⟩:=x;dsimp only at h;have e:Iz ⟨use,state,mode,prio,due,⟨v,f,vn⟩⟩=bif decide (state=1)||decide (state=2) then⟨use- 1,true,mode,prio⟩ else⟨use,false,0,0⟩:=I
 rw[e];refine tqm [.g [.v (.int .i64 use),.v (.int .i64 state),.v (.int .i64 mode),.v (.int .i64 prio),.v (.int .i64 due),.v (.int .i64 v),.v (.int .i64 f),.v (.int .u64 vn)]] func50 ntmps50 λ_ _=>?_;refine Ai (λh1=>?_) λh1=>?_
 ·refine Af (z:=use- 1) (hz:=by rw[Ey]<;>omega) (ho:=I) (hx:=I) (hy:=I) (hr:=I) ?_;exact Al [] I2 λ_=>⟨by simp[h1];rfl,I⟩
 refine Ai (λh2=>?_) λh2=>?_
 ·refine Af (z:=use- 1) (hz:=by rw[Ey]<;>omega) (ho:=I) (hx:=I) (hy:=I) (hr:=I) ?_;exact Al [] I2 λ_=>⟨by simp[h2];rfl,I⟩
 ·exact Al [] I2 λ_=>⟨by simp[h1,h2];rfl,I⟩
theorem Wp {x:Try}:Ur x=true↔(-1<=x.sent/\x.sent<=1099511627776)/\Iy x.heard=true/\0<=x.over/\x.over<=1099511627776:=by
 simp[Ur,Lk,Xh]
theorem Abi (n l s:Int) (a:Option Addr) (cap:Nat) (xs:List Try) (hl:xs.length<=1000000):Cm prog 49 [.agg #[.int .i64 n,.int .i64 l,.int .i64 s],.slice a xs.length cap] [] [slF Bz 3 (.slice a xs.length cap) xs] (Bd (.bool (decide ((xs.length:Int)=s)&&xs.all Ur))):=by
 refine tqm [.g [.v (.int .i64 n),.v (.int .i64 l),.v (.int .i64 s)],.o (.v (.slice a xs.length cap))] func49 ntmps49 λ_ _=>?_;refine A7 (λh0=>?_) λh0=>?_
 ·have e:decide ((xs.length:Int)=s)=false:=by simp at h0;simpa using h0
  rw[e];exact tqE
 have e:decide ((xs.length:Int)=s)=true:=by simp at h0;simpa using h0
 rw[e];refine Br (γ:=Nat) (λk=>k<=xs.length/\∀(j:Nat) x,j<k->xs[j]? =some x->Ur x=true) (λk=>[(5,.o (.v (.int .i64 k)))]) (λ_=>[]) (λ_=>[]) (λk=>xs.length- k) 0 ⟨Ax _,λj x hj=>by omega⟩ Ac ?_;rintro k ⟨hk,hyes⟩;refine Ai (λh1=>?_) λh1=>?_;rotate_left
 ·have hall:xs.all Ur=true:=Rf tqO hyes;rw[hall];exact tqE
 obtain⟨x,hx⟩:=A9 (xs:=xs) (k:=k);have bad:¬Ur x=true->xs.all Ur=false:=λh=>Ms hx (by simpa using h);refine Dk (slF Bz 3 (.slice a xs.length cap) xs) (B1 hx) ?_;rintro ⟨b,off,rfl⟩;refine Au Bb ?_;refine Au (Ce (slF Bz 3 (.slice (some ⟨b,off,none⟩) xs.length cap) xs) (Eg hx (j:=0) I)) ?_;refine Ai (λh2=>?_) λh2=>?_
 ·rw[bad λh=>by have:=Wp.1 h;omega];exact tqE
 refine Au Bb ?_;refine Au (Ce (slF Bz 3 (.slice (some ⟨b,off,none⟩) xs.length cap) xs) (Eg hx (j:=0) I)) ?_;refine Ai (λh3=>?_) λh3=>?_
 ·rw[bad λh=>by have:=Wp.1 h;omega];exact tqE
 refine Au Bb ?_;refine Au (Ce (slF Bz 3 (.slice (some ⟨b,off,none⟩) xs.length cap) xs) (Eg hx (j:=1) I)) ?_;refine tqc I5 (λ_=>P2 x.heard) ?_;cases h4:Iy x.heard
 ·rw[bad λh=>by have:=(Wp.1 h).2.1;rw[h4] at this;cases this];exact tqE
 refine Au Bb ?_;refine Au (Ce (slF Bz 3 (.slice (some ⟨b,off,none⟩) xs.length cap) xs) (Eg hx (j:=2) I)) ?_;refine Ai (λh5=>?_) λh5=>?_
 ·rw[bad λh=>by have:=Wp.1 h;omega];exact tqE
 refine Au Bb ?_;refine Au (Ce (slF Bz 3 (.slice (some ⟨b,off,none⟩) xs.length cap) xs) (Eg hx (j:=2) I)) ?_;refine Ai (λh6=>?_) λh6=>?_
 ·rw[bad λh=>by have:=Wp.1 h;omega];exact tqE
 refine Af (z:=(k+1:Nat)) ?_;refine⟨k+1,⟨tqO,λj y hj hy=>?_⟩,tqP,Ac⟩;rcases Bg.1 hj with h|rfl
 ·exact hyes j y h hy
 ·rw[hx] at hy;cases hy;exact Wp.2 ⟨⟨tqO,tqO⟩,h4,tqO,tqO⟩
deriving instance DecidableEq for Own
structure Lck where
 tree:Bool
 has:Bool
 tok:Tok
 last:Int
 own:Own
 known:List Sta
 slots:List Slt
 tries:List Try
 deriving DecidableEq
structure LckS where
 tok:Sls
 a4:Option Addr
 c4:Nat
 a5:Option Addr
 c5:Nat
 a6:Option Addr
 c6:Nat
def Jd (x:Lck) (p:LckS):List Value:=[.bool x.tree,.bool x.has,.int .i64 x.tok.age,.slice p.tok.a1 x.tok.seq.length p.tok.c1,.slice p.tok.a2 x.tok.q.length p.tok.c2,.slice p.tok.a3 x.tok.hs.length p.tok.c3,.int .i64 x.tok.c.value,.int .i64 x.tok.c.floor,.int .u64 x.tok.c.version,.int .i64 x.last,.int .i64 x.own.node,.int .i64 x.own.hop,.slice p.a4 x.known.length p.c4,.slice p.a5 x.slots.length p.c5,.slice p.a6 x.tries.length p.c6]
def C7 (x:Lck) (p:LckS):List Fact:=[slF Bt 1 (.slice p.tok.a1 x.tok.seq.length p.tok.c1) x.tok.seq,slF wtL 5 (.slice p.tok.a2 x.tok.q.length p.tok.c2) x.tok.q,slF hdL 3 (.slice p.tok.a3 x.tok.hs.length p.tok.c3) x.tok.hs,slF Bv 4 (.slice p.a4 x.known.length p.c4) x.known,slF Bm 8 (.slice p.a5 x.slots.length p.c5) x.slots,slF Bz 3 (.slice p.a6 x.tries.length p.c6) x.tries]
def Lck.small (x:Lck):Prop:=x.tok.small/\x.known.length<=1000000/\x.slots.length<=1000000/\x.tries.length<=1000000
def Im (x:Lck) (p:LckS) (pl:Plc):List Value:=Jd x p++[.int .i64 pl.n,.int .i64 pl.l,.int .i64 pl.s,.int .i64 pl.me,.int .i64 pl.lock,.int .i64 pl.limit,.int .i64 pl.retry,.int .i64 pl.far,.int .i64 pl.now,.bool pl.still,.slice none 0 0]
def Tq (s:Int) (xs:List Try):Bool:=decide ((xs.length:Int)=s)&&xs.all Ur
def Fd:Tok:=⟨0,[],[],[],⟨0,0,0⟩⟩
def Dx:Sls:=⟨none,0,none,0,none,0⟩
def AS (n l s:Int) (x:Lck):Bool:=bif !x.has&&decide (x.last=0) then decide (x.tok=Fd) else decide (0<x.last)&&decide (x.tok.age=x.last)&&Fq n l s x.tok
variable {α:Type}
theorem Kw (enc:α->List Value) (k:Nat) (A:Nat->Prop) (w:World):(slF enc k (.slice none 0 0) ([]:List α)).h A w:=⟨none,0,I,⟨Ak _,λ_=>I⟩,.inl I⟩
theorem Ib {A:Nat->Prop} {w:World}:∀f∈Bs Fd Dx,f.h A w:=by
 intro f hf;simp only[Bs,Fd,Dx,Ap,Bw,Ed] at hf;rcases hf with rfl|rfl|rfl
 ·exact Kw _ _ _ _
 ·exact Kw _ _ _ _
 ·exact Kw _ _ _ _
theorem Sz:Fd.small:=⟨by decide,by decide,by decide⟩
theorem Afq {f:Nat} {x:Tok} {p:Sls} (h:Cm prog f [.agg (G5 x p).toArray,.agg (G5 Fd Dx).toArray] [] (Bs x p++Bs Fd Dx) (Bd (.bool (decide (x=Fd))))):Cm prog f [.agg (G5 x p).toArray,.agg (G5 Fd Dx).toArray] [] (Bs x p) (Bd (.bool (decide (x=Fd)))):=
 h.facts λA w hF f hf=>by
  rcases B4.1 hf with hf|hf
  ·exact hF f hf
  ·exact Ib f hf
def Aa9 (w0:World) (v0:Value) (e sz m':Nat) (xs':List Value):Ending->World->Prop:=λen w'=>∃a' c',en=.returned (.slice a' m' c')/\w'.ownsRow 0 e sz (.slice a' m' c') m' xs'/\(∀b,(Value.slice a' m' c').ownBlock=some b->v0.ownBlock=some b\/w0.heap.size<=b)/\Kp v0.ownBlock.toList w0 w'
section
variable {X:Fx} {T:TE} {L:LE} {n:Nat} {F:List Fact} {D:DF}
def Al3 (X:Fx) (res:List ResultVar) (v0:Value) (e sz m':Nat) (xs':List Value):KK:=λex T L n F D=>match ex with
 | .normal=>LvR X 8 (Aa9 X.w0 v0 e sz m' xs') res .returning T L n F D
 | .ret=>LvR X 8 (Aa9 X.w0 v0 e sz m' xs') res .returning T L n F D
 |_=>False
theorem Akg {res:List ResultVar} {v0:Value} {e sz m':Nat} {xs':List Value} (h:MS X res v0 e sz m' xs' T L n F D):LvR X 8 (Aa9 X.w0 v0 e sz m' xs') res .returning T L n F D:=by
 intro a w hr fn hfn;obtain⟨h1,h2⟩:=h a w hr;obtain⟨a2,c2,h3,h4⟩:=h2 fn hfn;rw[h1];exact⟨_,h3,a2,c2,I,h4⟩
theorem Ajm {P:Program} {tab:Tab} {ok:tab.Ok P} {g:Nat} {fn:Func} {body:Code} {args:Value->List Value} {F0:List Fact} {e sz m m':Nat} {xs xs':List Value} {k:Nat} (us:Value->List TV) (hf:P.funcs[g]? =some fn) (hk:fn.ntmps=k) (hb:fn.body=some body) (hul:∀v,Nat.ble (us v).length k=true)
  (hargs:∀v (ρ:Nm),(us v).map (TV.den ρ)=args v)
  (h:∀w0 A0 a cap,sx ⟨P,tab,ok,none,8,k,w0,A0,(Value.slice a m cap).ownBlock.toList,[]⟩ body (U8 0 (us (.slice a m cap))) [(0,.own (.slice a m cap) e sz m xs)] 1 F0 (λ_=>[]) (Al3 ⟨P,tab,ok,none,8,k,w0,A0,(Value.slice a m cap).ownBlock.toList,[]⟩ fn.results.toList (.slice a m cap) e sz m' xs')):CoW P g args F0 e sz m xs m' xs':=by
 intro A w a cap hown hA hAl hF;refine(Fz (n:=8)).1 (N7 hf hb trivial ?_ I);rw[hk];have hk2:(us (.slice a m cap)).length<=k:=by have:=hul (.slice a m cap);rwa[G6] at this
 have hll:(args (.slice a m cap)).length=(us (.slice a m cap)).length:=by rw[<-hargs _ λ_=>0];simp
 refine Ht (h w A a cap) _ ?_ _ _ ?_
 ·intro ex T L n F D hK a' w' hr;cases ex with
  |normal=>exact hK a' w' hr fn I
  |ret=>exact hK a' w' hr fn I
  |panic ch=>exact hK.elim
  |exit id=>exact hK.elim
  |goto l=>exact hK.elim
  |outgrown=>exact hK.elim
 ·have one:∀ {k':Nat} {e':LC},Ah [(0,LC.own (.slice a m cap) e sz m xs)] k'=some e'->k'=0/\e'=.own (.slice a m cap) e sz m xs:=by
   intro k' e' hk';rw[As] at hk';split at hk'
   ·rename_i ek;cases hk';exact⟨ek,I⟩
   ·cases hk'
  refine⟨λk' e' hk'=>by rw[(one hk').1];exact Nat.zero_lt_one,λ_=>0,A,λρ _=>⟨⟨?_,λk' e' hk'=>?_,hF⟩,by simp;omega,I,Kp.refl _ _,λk' e' b hk' hb'=>?_,λk1 k2 e1 e2 b hk1 hk2 _ _=>by rw[(one hk1).1,(one hk2).1],λb hb'=>.inl hb',λb hb'=>⟨hAl b hb',λk' e' hk' hbk=>?_⟩,λi b hi=>(by cases hi)⟩⟩
  ·intro t x hx;obtain⟨j,rfl,hj⟩:=Rh hx;rw[Bl,<-hargs _ ρ,Bp,Iq (by simpa using (Aa.1 hj).1),Ic,Cq,hj];rfl
  ·obtain⟨rfl,rfl⟩:=one hk';exact hown
  ·obtain⟨rfl,rfl⟩:=one hk';exact .inl (by rw[S6];exact hb')
  ·obtain⟨rfl,rfl⟩:=one hk';exact hA b hbk hb'
end
section
variable {X:Fx} {T:TE} {L:LE} {n:Nat} {F:List Fact} {D:DF} {K:KK} {k:KS} {o:Oper}
theorem Jb {t ct:TypeId} {x:Operand} {b o':Nat} {v:Value} {cs:List Value} (ho:o.op=.load t x:=by exact I) (hk:Ah X.tab.kd t=some none:=by exact I) (hx:evS T x=some (.o (.v (.pointer (some ⟨b,o',none⟩)))):=by exact I) (hv:cs[o']? =some v:=by exact I) (hf:B9 b cs ct∈F:=by exact tqS):Yd X o T L F (.o (.v v)):=
 Ce (B9 b cs ct) (hf:=hf) (λA w h=>L9 hv A w h) (ho:=ho) (hk:=hk) (hx:=hx)
theorem P3 {t ct:TypeId} {x:Operand} {b o':Nat} {vs cs:List Value} (ho:o.op=.load t x:=by exact I) (hk:Ah X.tab.kd t=some (some vs.length):=by exact I) (hx:evS T x=some (.o (.v (.pointer (some ⟨b,o',none⟩)))):=by exact I) (hv:(cs.drop o').take vs.length=vs:=by exact I) (hf:B9 b cs ct∈F:=by exact tqS):Yd X o T L F (.g (vs.map SV.v)):=
 Cu (B9 b cs ct) (hf:=hf) (λA w h j u hu=>by
  have hj:=(Aa.1 hu).1;refine L9 ?_ A w h;rw[<-hv,Db hj,E3] at hu;exact hu) (ho:=ho) (hk:=hk) (hx:=hx)
end
def Yc (x y:Sta):Bool:=bif x.over != y.over then decide (y.over<x.over) else x.pend&& !y.pend
theorem Afl (x y:Sta):Cm prog 268 [.agg (Bv x).toArray,.agg (Bv y).toArray] [] [] (Bd (.bool (Yc x y))):=by
 obtain⟨a,b,c,d⟩:=x;obtain⟨a',b',c',d'⟩:=y;have hM:Yc ⟨a,b,c,d⟩ ⟨a',b',c',d'⟩=bif a != a' then decide (a'<a) else b&& !b':=I
 rw[hM];refine tqm [.g [.v (.int .i64 a),.v (.bool b),.v (.int .i64 c),.v (.int .i64 d)],.g [.v (.int .i64 a'),.v (.bool b'),.v (.int .i64 c'),.v (.int .i64 d')]] func268 ntmps268 λ_ _=>?_;refine A7 (λh0=>?_) λh0=>?_
 ·rw[h0];exact tqE
 ·rw[h0];cases b<;>cases b'
  ·exact tqE
  ·exact tqE
  ·exact tqE
  ·exact tqE
theorem Ams (x y:Sta):Cm prog 215 [.agg (Bv x).toArray,.agg (Bv y).toArray] [] [] (Bd (.bool (Yc x y))):=by
 have hM:=Afl x y;obtain⟨a,b,c,d⟩:=x;obtain⟨a',b',c',d'⟩:=y;refine tqm [.g [.v (.int .i64 a),.v (.bool b),.v (.int .i64 c),.v (.int .i64 d)],.g [.v (.int .i64 a'),.v (.bool b'),.v (.int .i64 c'),.v (.int .i64 d')]] func215 ntmps215 λ_ _=>?_;refine tqc I5 (λ_=>hM) ?_;exact tqE
def Rx (k:Nat) (ys xs:List Sta):List Sta:=(List.zipWith (λy x=>bif Yc x y then x else y) ys xs).take k++ys.drop k
variable {k:Nat} {ys:List Sta}
theorem SX (h:ys.length=xs.length) (hk:k<=xs.length):(Rx k ys xs).length=xs.length:=by
 unfold Rx;rw[Az,Am,L4,Bn];omega
variable {y:Sta}
theorem Akh {x:Sta} (h:ys.length=xs.length) (hy:ys[k]? =some y) (hx:xs[k]? =some x):(Rx k ys xs)[k]? =some y:=by
 have hk:=(Aa.1 hx).1;unfold Rx;rw[Dp (by rw[Am,L4];omega),Am,L4,E3,<-hy]
 congr 1
 omega
theorem Adv {x:Sta} (h:ys.length=xs.length) (hy:ys[k]? =some y) (hx:xs[k]? =some x):Rx (k+1) ys xs=(Rx k ys xs).set k (bif Yc x y then x else y):=by
 have hk:=(Aa.1 hx).1;refine F6 λj=>?_;have hz:(List.zipWith (λy x=>bif Yc x y then x else y) ys xs)[k]? =some (bif Yc x y then x else y):=by rw[List.getElem?_zipWith,hy,hx]
 have hzl:(List.zipWith (λy x=>bif Yc x y then x else y) ys xs).length=xs.length:=by rw[L4];omega
 have hml:=SX h (Nat.le_of_lt hk);rw[Kb];by_cases e:k=j
 ·subst e;rw[Bi I,Bi tqO];unfold Rx;rw[Eo (by rw[Am];omega),Db tqO,hz]
 ·rw[Ar e];unfold Rx;by_cases h1:j<k
  ·rw[Eo (by rw[Am];omega),Db tqO,Eo (by rw[Am];omega),Db h1]
  ·rw[Dp (by rw[Am];omega),Dp (by rw[Am];omega),Am,Am,E3,E3]
   congr 1
   omega
theorem JA {l:List α} {y:α} (h:l[k]? =some y):l.set k y=l:=by
 refine F6 λj=>?_;rw[Kb];split
 ·rename_i e;subst e;rw[Bi (Aa.1 h).1,h]
 ·rfl
theorem Aeq {zs:List Sta} (h:zs[k]? =some y):Pf (some 4) ((zs.flatMap Bv).map SV.v) (0+k*4)=some (.g ((Bv y).map SV.v)):=by
 obtain⟨h1,h2⟩:=FZ Hh h [];rw[Bu] at h1 h2;simp only[Pf,Bl];rw[Ew,Bi (by rw[G6,Cr];exact h2),<-Ko,<-Ir,h1]
theorem Ale {zs:List Sta} {x:Sta} (h:zs[k]? =some y):(zs.flatMap Bv).take (0+k*4)++Bv x++(zs.flatMap Bv).drop (0+k*4+(Bv x).length)=(zs.set k x).flatMap Bv:=by
 have:=BO (j:=0) (x':=x) (ys:=Bv x) Hh h (by simp[Hh]) (by simp[Bv]) [];rw[Bu,Bu,Eb] at this;rw[Bl];exact this
theorem Ag6 (a:Option Addr) (cap:Nat) (xs ys:List Sta) (h:ys.length=xs.length) (hl:xs.length<=1000000):CoW prog 214 (λv=>[v,.slice a xs.length cap]) [slF Bv 4 (.slice a xs.length cap) xs] 74 4 xs.length (ys.flatMap Bv) xs.length ((Rx xs.length ys xs).flatMap Bv):=by
 refine JW (tab:=tb) (ok:=R8) (λv=>[.o (.v v),.o (.v (.slice a xs.length cap))]) func214 ntmps214 I (λ_=>I) (λ_ _=>I) ?_;intro w0 A0 a0 cap0;have h0:ys.flatMap Bv=(Rx 0 ys xs).flatMap Bv:=by unfold Rx;simp
 rw[h0];refine Br (γ:=Nat) (λk=>k<=xs.length) (λk=>[(9,.o (.v (.int .i64 k)))]) (λk=>[(0,.own (.slice a0 xs.length cap0) 74 4 xs.length ((Rx k ys xs).flatMap Bv))]) (λ_=>[]) (λk=>xs.length- k) 0 (Ax _) Ac ?_;intro k hk;refine Ai (λh1=>?_) λh1=>?_;rotate_left
 ·obtain rfl:k=xs.length:=by omega
  exact Po 0 I I I I
 have hkl:k<xs.length:=by omega
 obtain⟨x,hx⟩:=A9 (xs:=xs) (k:=k) (h:=hkl);obtain⟨y,hy⟩:=A9 (xs:=ys) (k:=k);have hm:=Akh h hy hx;have hml:=SX h hk;refine Dk (slF Bv 4 (.slice a xs.length cap) xs) (B1 hx) ?_;rintro ⟨b,off,rfl⟩;refine Au (Bb (hi:=hkl)) ?_;refine Au (Cu (vs:=Bv x) (slF Bv 4 (.slice (some ⟨b,off,none⟩) xs.length cap) xs) (Du hx)) ?_;refine Wy 0 I tqO ?_;rintro g rfl;refine Ao [4,5] (tqs 0 5<| .op 5 .z) [1] [] [] [] λ_=>?_;refine⟨_,Bb (i:=k) (hi:=hkl),?_⟩;refine EE 0 I I I I tqO (Aeq hm) ?_;refine tqQ<|tqc I5 (λ_=>Ams x y) ?_;refine tqQ ?_;have hs:=Adv h hy hx;cases hb:Yc x y
 ·rw[hb] at hs;have e:Rx (k+1) ys xs=Rx k ys xs:=by rw[hs];exact JA hm
  refine Af (z:=(k+1:Nat)) ?_;refine⟨k+1,tqO,tqP,?_⟩;dsimp only;rw[e];exact Ac
 ·rw[hb] at hs;refine Au (Bb (hi:=hkl)) ?_;refine Yg (xs:=Bv x) (cells':=(Rx (k+1) ys xs).flatMap Bv) 0 I I I I I I I tqO I (by rw[F8 Hh,Hh,hml];omega) (by simp[Bv,Value.oneCell']) (by rw[hs];exact Ale hm) ?_;refine Af (z:=(k+1:Nat)) ?_;refine⟨k+1,tqO,tqP,Ac⟩
theorem Aip (b b2:Nat) (s:Value):Y2 prog 321 [.pointer (some ⟨b2,0,none⟩)] [B9 b2 [.slice (some ⟨b,0,none⟩) 1 1] 304,B9 b [s] 36] (λv:Value=>[v]) [s]:=by
 refine Xs (tab:=tb) (ok:=R8) [.o (.v (.pointer (some ⟨b2,0,none⟩)))] func321 ntmps321 I I (λ_=>I) ?_;intro S;refine Au (Ce (S.inF (B9 b2 [.slice (some ⟨b,0,none⟩) 1 1] 304)) λA w h=>L9 (o:=0) I _ w h.2) ?_;refine Rj (γ:=Nat) (λk=>k<=1) (λk=>[(7,.o (.v (.int .i64 k)))]) (λ_=>[]) (λk=>[S.jF k,S.inF (B9 b [s] 36)]) (λk=>1- k) 0 (Ax _) (Ac (hM:=by simp[It.X])) ?_;intro k hk;refine Ai (λh1=>?_) λh1=>?_
 ·obtain rfl:k=0:=by omega
  refine Au (Bb (i:=0)) ?_;refine Au (Ce (S.inF (B9 b [s] 36)) λA w h=>L9 (o:=0) I _ w h.2) ?_;refine Rz 0 [B9 b [s] 36] I I I I I (λ_=>I) tqS tqS ?_ ?_
  ·refine Af (z:=((0+1:Nat):Int)) ?_;exact⟨0+1,tqO,tqP,Ac (hM:=by simp[It.X])⟩
  ·exact Px (0+1) tqS tqO tqS I I
 ·obtain rfl:k=1:=by omega
  exact Og tqS I I
theorem Ang (a:Option Addr) (m cap:Nat):Cm prog 280 [.slice a m cap] [] [] (λe _ F1=>∃b,e=.returned (.func (.func 321) #[] #[.pointer (some ⟨b,0,none⟩)])/\F1=[B9 b [.slice a m cap] 304]):=by
 refine tqm [.o (.v (.slice a m cap))] func280 ntmps280 λ_ _=>?_;exact Lp [0] [] I3 λρ=>⟨ρ 0,I,I⟩
theorem Adc (a:Option Addr) (cap:Nat) (xs ys:List Sta) (b:Nat) (h:ys.length=xs.length) (hl:xs.length<=1000000):CoW prog 213 (λv=>[v,.slice (some ⟨b,0,none⟩) 1 1,.func (.func 214) #[] #[]]) [B9 b [.slice a xs.length cap] 36,slF Bv 4 (.slice a xs.length cap) xs] 74 4 xs.length (ys.flatMap Bv) xs.length ((Rx xs.length ys xs).flatMap Bv):=by
 refine Ajm (tab:=tb) (ok:=R8) (λv=>[.o (.v v),.o (.v (.slice (some ⟨b,0,none⟩) 1 1)),.o (.v (.func (.func 214) #[] #[]))]) func213 ntmps213 I (λ_=>I) (λ_ _=>I) ?_;intro w0 A0 a0 cap0;refine Aj [] [] I7 (λ_=>Ang (some ⟨b,0,none⟩) 1 1) ?_;rintro e cs F1 _ ⟨b2,rfl,rfl⟩;refine Rk (γ:=Option Addr×Nat) (λ_ _=>True) (λk g=>([(2,.c [.v (.func (.func 214) #[] #[])] 309),(1,.c [.v (.slice g.1 xs.length g.2)] 36),(0,.own (.slice g.1 xs.length g.2) 74 4 xs.length ((match k with|0=>ys|_+1=>Rx xs.length ys xs).flatMap Bv))],[B9 b2 [.slice (some ⟨b,0,none⟩) 1 1] 304,B9 b [.slice a xs.length cap] 36,slF Bv 4 (.slice a xs.length cap) xs])) (a0,cap0) (Aip b b2 (.slice a xs.length cap)) I I I (λ_=>I) I (Ax _) trivial ?_ tqS ?_ ?_
 ·exact Ac
 ·rintro k x ⟨a1,c1⟩ hx- l1 w1 A1 M1 N1 hN1;obtain rfl:k=0:=by have:=(Aa.1 hx).1;simpa using this
  obtain rfl:Value.slice a xs.length cap=x:=by simpa using hx
  intro w2 A2 M2 N2 hN2;refine⟨I,?_⟩;refine Nr 0 [] I I I I I I I (λ_=>I) I I (λ_=>Ag6 a cap xs ys h hl) tqS ?_;intro a' c';exact⟨(a',c'),trivial,Ac (hM:=Fy hN2)⟩
 ·rintro ⟨a1,c1⟩ -;exact Oa Qo I (Akg (Po 0 I I I I))
theorem Akf (x:Lck) (p:LckS) (pl:Plc) (b:Nat) (k:Int) (h1:0<=pl.me*pl.s/\pl.me*pl.s<=1000000) (h2:0<=k/\k<=1000000):Cm prog 64 [.pointer (some ⟨b,0,none⟩),.int .i64 k] [] [B9 b (Im x p pl) 116] (Bd (.int .i64 (pl.me*pl.s+k))):=by
 refine tqm [.o (.v (.pointer (some ⟨b,0,none⟩))),.o (.v (.int .i64 k))] func64 ntmps64 λ_ _=>?_;refine Ao [] (tqs 0 14<| .op 14 .z) [] [] [] [B9 b (Im x p pl) 116] λ_=>?_;refine⟨_,Jb (cs:=Im x p pl) (b:=b) (ct:=116),?_⟩;refine⟨_,Jb (cs:=Im x p pl) (b:=b) (ct:=116),?_⟩;refine⟨_,Cb (z:=pl.me*pl.s) (ho:=I) (hx:=I) (hy:=I) (hr:=I) (hz:=by rw[Ey]<;>omega),?_⟩;refine⟨_,Cb (z:=pl.me*pl.s+k) (ho:=I) (hx:=I) (hy:=I) (hr:=I) (hz:=by rw[Ey]<;>omega),?_⟩;exact tqE
theorem Alm (x:Lck) (p:LckS) (pl:Plc) (b:Nat) (hx:x.small):Cm prog 75 [.pointer (some ⟨b,0,none⟩)] [] (B9 b (Im x p pl) 116::C7 x p) (Bd (.bool (Tq pl.s x.tries))):=by
 unfold C7;have hl:=hx.2.2.2;refine tqm [.o (.v (.pointer (some ⟨b,0,none⟩)))] func75 ntmps75 λ_ _=>?_;refine Ao [19] (tqs 0 22<| .op 22 .z) [] [] [] [B9 b (Im x p pl) 116] λ_=>?_;refine⟨_,Jb (cs:=Im x p pl) (b:=b) (ct:=116),?_⟩;refine⟨_,Jb (cs:=Im x p pl) (b:=b) (ct:=116),?_⟩;unfold Tq;refine A7 (λh1=>?_) λh1=>?_;rotate_left
 ·have e:decide ((x.tries.length:Int)=pl.s)=false:=by simp at h1;simpa using h1
  rw[e];exact tqE
 have e:decide ((x.tries.length:Int)=pl.s)=true:=by simp at h1;simpa using h1
 rw[e];refine⟨_,Jb (cs:=Im x p pl) (b:=b) (ct:=116),?_⟩;refine tqc I5 (λ_=>Adp (F0:=[]) (lb:=[]) (a:=p.a6) (cap:=p.c6) (xs:=x.tries) I (λx=> !Ur x) tqO λx _=>Ain x) ?_;refine tqQ ?_;have e2:(!x.tries.any λx=> !Ur x)=x.tries.all Ur:=by rw[Lu]
 rw[<-e2];cases x.tries.any λx=> !Ur x
 ·exact tqE
 ·exact tqE
theorem Acq (x:Lck) (p:LckS) (pl:Plc) (b:Nat) (hx:x.small):Cm prog 77 [.pointer (some ⟨b,0,none⟩)] [] (B9 b (Im x p pl) 116::C7 x p) (Bd (.bool (AS pl.n pl.l pl.s x))):=by
 unfold C7;have hZ:AS pl.n pl.l pl.s x=bif !x.has&&decide (x.last=0) then decide (x.tok=Fd) else decide (0<x.last)&&decide (x.tok.age=x.last)&&Fq pl.n pl.l pl.s x.tok:=I
 generalize AS pl.n pl.l pl.s x=Z at hZ;have fin:∀ {r:Bool},Z=r->Value.bool r=.bool Z:=λh=>by rw[h]
 refine tqm [.o (.v (.pointer (some ⟨b,0,none⟩)))] func77 ntmps77 λ_ _=>?_;refine Eu (cs:=Im x p pl) (b:=b) (ct:=116) ?_;cases hh:x.has
 ·rw[hh] at hZ;refine Eu (cs:=Im x p pl) (b:=b) (ct:=116) ?_;refine A7 (λh1=>?_) λh1=>?_
  ·have e1:decide (x.last=0)=true:=by simpa using h1
   rw[e1] at hZ;refine Nc (vs:=G5 x.tok p.tok) (cs:=Im x p pl) (b:=b) (ct:=116) ?_;refine tqc I5 (λ_=>Afq (Afp x.tok Fd p.tok Dx hx.1 Sz)) ?_;rw[hZ];exact tqE
  ·have e1:decide (x.last=0)=false:=by simpa using h1
   rw[e1] at hZ;refine Ao [31] (tqs 0 34<| .op 34 .z) [] [] [] [B9 b (Im x p pl) 116] λ_=>?_;refine⟨_,Jb (cs:=Im x p pl) (b:=b) (ct:=116),?_⟩;refine Ai (λh2=>?_) λh2=>?_;rotate_left
   ·have e2:decide (0<x.last)=false:=by simpa using h2
    rw[e2] at hZ;rw[hZ];exact tqE
   have e2:decide (0<x.last)=true:=by simpa using h2
   rw[e2] at hZ;refine⟨_,Jb (cs:=Im x p pl) (b:=b) (ct:=116),?_⟩;refine⟨_,Jb (cs:=Im x p pl) (b:=b) (ct:=116),?_⟩;refine A7 (λh3=>?_) λh3=>?_;rotate_left
   ·have e3:decide (x.tok.age=x.last)=false:=by simp at h3;simpa using h3
    rw[e3] at hZ;rw[hZ];exact tqE
   have e3:decide (x.tok.age=x.last)=true:=by simp at h3;simpa using h3
   rw[e3] at hZ;refine⟨_,P3 (vs:=[.int .i64 pl.n,.int .i64 pl.l,.int .i64 pl.s]) (cs:=Im x p pl) (b:=b) (ct:=116),?_⟩;refine⟨_,P3 (vs:=G5 x.tok p.tok) (cs:=Im x p pl) (b:=b) (ct:=116),?_⟩;refine tqc I5 (λ_=>LZ pl.n pl.l pl.s x.tok p.tok hx.1) ?_;refine tqQ ?_;unfold Ab5;have hZ2:Z=Fq pl.n pl.l pl.s x.tok:=by rw[hZ];simp
   rw[hZ2];cases Fq pl.n pl.l pl.s x.tok
   ·exact tqE
   ·exact tqE
 ·rw[hh] at hZ;refine Ao [31] (tqs 0 34<| .op 34 .z) [] [] [] [B9 b (Im x p pl) 116] λ_=>?_;refine⟨_,Jb (cs:=Im x p pl) (b:=b) (ct:=116),?_⟩;refine Ai (λh2=>?_) λh2=>?_;rotate_left
  ·have e2:decide (0<x.last)=false:=by simpa using h2
   rw[e2] at hZ;rw[hZ];exact tqE
  have e2:decide (0<x.last)=true:=by simpa using h2
  rw[e2] at hZ;refine⟨_,Jb (cs:=Im x p pl) (b:=b) (ct:=116),?_⟩;refine⟨_,Jb (cs:=Im x p pl) (b:=b) (ct:=116),?_⟩;refine A7 (λh3=>?_) λh3=>?_;rotate_left
  ·have e3:decide (x.tok.age=x.last)=false:=by simp at h3;simpa using h3
   rw[e3] at hZ;rw[hZ];exact tqE
  have e3:decide (x.tok.age=x.last)=true:=by simp at h3;simpa using h3
  rw[e3] at hZ;refine⟨_,P3 (vs:=[.int .i64 pl.n,.int .i64 pl.l,.int .i64 pl.s]) (cs:=Im x p pl) (b:=b) (ct:=116),?_⟩;refine⟨_,P3 (vs:=G5 x.tok p.tok) (cs:=Im x p pl) (b:=b) (ct:=116),?_⟩;refine tqc I5 (λ_=>LZ pl.n pl.l pl.s x.tok p.tok hx.1) ?_;refine tqQ ?_;unfold Ab5;have hZ2:Z=Fq pl.n pl.l pl.s x.tok:=by rw[hZ];simp
  rw[hZ2];cases Fq pl.n pl.l pl.s x.tok
  ·exact tqE
  ·exact tqE
theorem Aka {g:Nat} (hg:Ah tb.fn g=some ()) (r:Bool) {b:Nat} {s:Value} (hc:Cm prog g (s::lb) [] F0 (Bd (.bool r))):
  Cm prog 277 [.slice (some ⟨b,0,none⟩) 1 1,.func (.func g) #[] lb.toArray] [] (B9 b [s] 36::F0) (Bd (.int .i64 (bif r then 0 else-1))):=by
 refine tqm [.o (.v (.slice (some ⟨b,0,none⟩) 1 1)),.o (.v (.func (.func g) #[] lb.toArray))] func277 ntmps277 λ_ _=>?_;refine Hj 2 ?_;refine Au (Bb (i:=0) (hz:=I) (ho:=I) (he:=I) (hx:=I) (hix:=I) (hi:=tqD)) ?_;refine Eu (cs:=[s]) (b:=b) (ct:=36) ?_;have hc2:∀ρ:Nm,Cm prog g (Gn ρ [] [TV.o (.v s)] (lb.map PV.v)) [] F0 (Bd (.bool r)):=λρ=>by
  have e:Gn ρ [] [TV.o (.v s)] (lb.map PV.v)=s::lb:=by simp[Gn,Fp,Ll,PV.den,TV.den,SV.den]
  rw[e];exact hc
 refine tqc ⟨I,I,I,I,hg⟩ (λρ=>hc2 ρ) (hF0:=λf hf=>B3 _ hf) ?_;cases r
 ·refine Af (z:=1) ?_;exact tqE
 ·exact tqE
theorem Aj9 {g:Nat} (hg:Ah tb.fn g=some ()) (r:Bool) {b:Nat} {s:Value} (hc:Cm prog g (s::lb) [] F0 (Bd (.bool r))):
  Cm prog 210 [.slice (some ⟨b,0,none⟩) 1 1,.func (.func g) #[] lb.toArray] [] (B9 b [s] 36::F0) (Bd (.bool r)):=by
 refine tqm [.o (.v (.slice (some ⟨b,0,none⟩) 1 1)),.o (.v (.func (.func g) #[] lb.toArray))] func210 ntmps210 λ_ _=>?_;refine tqc I5 (λ_=>Aka hg r hc) ?_;cases r
 ·exact tqE
 ·exact tqE
theorem Akb (n l s:Int) (a:Option Addr) (cap:Nat) (xs:List Sta) (b:Nat) (hx:xs.length<=1000000):Cm prog 211 [.slice a xs.length cap,.pointer (some ⟨b,0,none⟩)] [] [B9 b [.int .i64 n,.int .i64 l,.int .i64 s] 23,slF Bv 4 (.slice a xs.length cap) xs] (Bd (.bool (!Hn n l s xs))):=by
 refine tqm [.o (.v (.slice a xs.length cap)),.o (.v (.pointer (some ⟨b,0,none⟩)))] func211 ntmps211 λ_ _=>?_;refine Nc (vs:=[.int .i64 n,.int .i64 l,.int .i64 s]) (cs:=[.int .i64 n,.int .i64 l,.int .i64 s]) (b:=b) (ct:=23) ?_;refine tqc I5 (λ_=>XA n l s a cap xs hx) ?_;cases Hn n l s xs
 ·exact tqE
 ·exact tqE
theorem XZ (n l s:Int) (a:Option Addr) (cap:Nat) (xs:List Sta) (b:Nat) (hx:xs.length<=1000000):Cm prog 142 [.agg #[.int .i64 n,.int .i64 l,.int .i64 s],.slice (some ⟨b,0,none⟩) 1 1] [] [B9 b [.slice a xs.length cap] 36,slF Bv 4 (.slice a xs.length cap) xs] (λe _ F1=>(∃v,e=.returned (.tuple #[v,.int .i64 (bif Hn n l s xs then 0 else 2)]))/\F1=[]):=by
 refine tqm [.g [.v (.int .i64 n),.v (.int .i64 l),.v (.int .i64 s)],.o (.v (.slice (some ⟨b,0,none⟩) 1 1))] func142 ntmps142 λ_ _=>?_;have hsl:=Uy (n:=n) (l:=l) (s:=s);have hsi:=λh=>Sx (n:=n) (l:=l) (s:=s) h;have hk:Hn n l s xs=(Ef n l s&&decide ((xs.length:Int)=n*s)&&xs.all Gk):=I;refine En func26 ntmps26 ?_;intro w1 A1 M1 N1 hN1;refine tqc I5 (λ_=>BQ n l s) ?_;generalize (H8 n l s).length=m at hsl hsi;unfold Nu;cases hs:Ef n l s
 ·rw[hs] at hk;rw[hk];refine⟨I,?_⟩;exact Al [] I2 λ_=>⟨⟨_,I⟩,I⟩
 replace hsi:=hsi hs;refine Ca (m:=m) ?_;intro a1;refine⟨I,?_⟩;refine Aj [0] [] I7 (F0:=[B9 b [.slice a xs.length cap] 36,slF Bv 4 (.slice a xs.length cap) xs]) (Out:=Bd (.bool (!Hn n l s xs))) (λρ=>(Aj9 (b:=b) (lb:=[.pointer (some ⟨ρ 0,0,none⟩)]) I (!Hn n l s xs) (Akb n l s a cap xs (ρ 0) hx)).facts (F0:=[B9 (ρ 0) [.int .i64 n,.int .i64 l,.int .i64 s] 23,B9 b [.slice a xs.length cap] 36,slF Bv 4 (.slice a xs.length cap) xs]) (λA w hF f hf=>by
  rcases Ap.1 hf with rfl|hf
  ·exact hF _ tqS
  rcases Ap.1 hf with rfl|hf
  ·exact hF _ tqS
  rcases Ap.1 hf with rfl|hf
  ·exact hF _ tqS
  ·cases hf)) (hno:=.inr tqH) ?_
 rintro e cs F1 _ ⟨rfl,rfl⟩;cases hkn:Hn n l s xs
 ·exact Al [] I2 λ_=>⟨⟨_,I⟩,I⟩
 obtain rfl:m=xs.length:=by rw[hkn] at hk;simp at hk;omega
 have hmade:(madeCells ([1,0,1,1].map Te).toArray (xs.length*4)).toList=(List.replicate xs.length (⟨0,false,0,0⟩:Sta)).flatMap Bv:=P0 (enc:=Bv) (z:=⟨0,false,0,0⟩) tqD I xs.length;refine Nr (xs:=(List.replicate xs.length (⟨0,false,0,0⟩:Sta)).flatMap Bv) 2 [] (Fb (λc=>some (LC.own (.slice a1 xs.length xs.length) 74 4 xs.length c)) hmade) I I I I I I (λ_=>I) I I (λ_=>Adc a cap xs (List.replicate xs.length ⟨0,false,0,0⟩) b tqS hx) tqS ?_;intro a2 c2;exact Al [] I2 λ_=>⟨⟨_,I⟩,I⟩
def Ru (pl:Plc) (x:Lck):Bool:=Hn pl.n pl.l pl.s x.known&&Jl pl.n pl.l pl.s x.slots&&X4 pl.n pl.l pl.s x.own
theorem Akc (x:Lck) (p:LckS) (pl:Plc) (b:Nat) (hx:x.small):Cm prog 74 [.pointer (some ⟨b,0,none⟩)] [] (B9 b (Im x p pl) 116::C7 x p) (Bd (.bool (Ru pl x))):=by
 unfold C7;have hZ:Ru pl x=(Hn pl.n pl.l pl.s x.known&&Jl pl.n pl.l pl.s x.slots&&X4 pl.n pl.l pl.s x.own):=I;rw[hZ];refine tqm [.o (.v (.pointer (some ⟨b,0,none⟩)))] func74 ntmps74 λ_ _=>?_;refine Ao [10,11] (tqs 0 16<| .op 16 .z) [] [] [] [B9 b (Im x p pl) 116] λ_=>?_;refine⟨_,P3 (vs:=[.int .i64 pl.n,.int .i64 pl.l,.int .i64 pl.s]) (cs:=Im x p pl) (b:=b) (ct:=116),?_⟩;refine⟨_,Jb (cs:=Im x p pl) (b:=b) (ct:=116),?_⟩;refine tqQ<|Aj [0] [] I7 (λρ=>XZ pl.n pl.l pl.s p.a4 p.c4 x.known (ρ 0) hx.2.1) (hno:=.inr tqH) ?_;rintro e cs F1 _ ⟨⟨v,rfl⟩,rfl⟩;refine tqQ ?_;cases hk:Hn pl.n pl.l pl.s x.known
 ·refine Ao [13,27] (tqs 0 30<| .op 30 .z) [] [] [] [B9 b (Im x p pl) 116] λ_=>?_;exact tqE
 refine Ao [13,27] (tqs 0 30<| .op 30 .z) [] [] [] [B9 b (Im x p pl) 116] λ_=>?_;refine⟨_,P3 (vs:=[.int .i64 pl.n,.int .i64 pl.l,.int .i64 pl.s]) (cs:=Im x p pl) (b:=b) (ct:=116),?_⟩;refine⟨_,Jb (cs:=Im x p pl) (b:=b) (ct:=116),?_⟩;refine tqc I5 (λ_=>WY pl.n pl.l pl.s p.a5 p.c5 x.slots hx.2.2.1) ?_;refine tqQ ?_;unfold LR;cases Jl pl.n pl.l pl.s x.slots
 ·exact tqE
 refine⟨_,P3 (vs:=[.int .i64 pl.n,.int .i64 pl.l,.int .i64 pl.s]) (cs:=Im x p pl) (b:=b) (ct:=116),?_⟩;refine⟨_,P3 (vs:=X5 x.own) (cs:=Im x p pl) (b:=b) (ct:=116),?_⟩;refine tqc I5 (λ_=>TO pl.n pl.l pl.s x.own) ?_;refine tqQ ?_;unfold Ahn;cases X4 pl.n pl.l pl.s x.own
 ·exact tqE
 ·exact tqE
def stE (q:Slt×Nat):List Value:=[.int .i64 q.2,.agg (Bv (Iz q.1)).toArray]
theorem MR {xs:List α} {x:α} (h:xs[k]? =some x):xs.zipIdx[k]? =some (x,k):=by rw[List.getElem?_zipIdx,h];simp
theorem VW {xs:List α} {q:α×Nat} (h:xs.zipIdx[k]? =some q):xs[k]? =some q.1/\q.2=k:=by
 rw[List.getElem?_zipIdx] at h;obtain⟨x,h1,rfl⟩:=Dn.1 h;exact⟨h1,tqS⟩
theorem Afn (a:Option Addr) (cap:Nat) (xs:List Slt) (b:Nat) (hl:xs.length<=1000000) (hu:∀x∈xs,JE x):Y2 prog 219 [.pointer (some ⟨b,0,none⟩)] [B9 b [.slice a xs.length cap] 37,slF Bm 8 (.slice a xs.length cap) xs] stE xs.zipIdx:=by
 refine Xs (tab:=tb) (ok:=R8) [.o (.v (.pointer (some ⟨b,0,none⟩)))] func219 ntmps219 I I (λ_=>I) ?_;intro S;refine Xi I ?_;refine Au (Ce (S.inF (B9 b [.slice a xs.length cap] 37)) λA w h=>L9 (o:=0) I _ w h.2) ?_;refine Rj (γ:=Nat) (λk=>k<=xs.length) (λk=>[(7,.o (.v (.int .i64 k)))]) (λ_=>[]) (λk=>[S.jF k,S.inF (slF Bm 8 (.slice a xs.length cap) xs)]) (λk=>xs.length- k) 0 (Ax _) (Ac (hM:=by simp[It.X])) ?_;intro k hk;refine Ai (λh1=>?_) λh1=>?_
 ·obtain⟨x,hx⟩:=A9 (xs:=xs) (k:=k);refine Dk (S.inF (slF Bm 8 (.slice a xs.length cap) xs)) (λA w h=>B1 hx _ w h.2) ?_;rintro ⟨b1,off,rfl⟩;refine Au Bb ?_;refine Au (Cu (vs:=Bm x) (S.inF (slF Bm 8 (.slice (some ⟨b1,off,none⟩) xs.length cap) xs)) λA w h=>Du hx _ w h.2) ?_;refine tqc I5 (λ_=>PP x (hu x (Av hx))) ?_;refine Rz k [slF Bm 8 (.slice (some ⟨b1,off,none⟩) xs.length cap) xs] I I I I (MR hx) (λ_=>I) tqS tqS ?_ ?_
  ·refine Af (z:=(k+1:Nat)) ?_;exact⟨k+1,tqO,tqP,Ac (hM:=by simp[It.X])⟩
  ·exact Px (k+1) tqS tqO (by simp;omega) I I
 ·obtain rfl:k=xs.length:=by omega
  exact Og tqS I I
theorem Alj (a:Option Addr) (cap:Nat) (xs:List Slt) (hl:xs.length<=1000000):Cm prog 147 [.slice a xs.length cap] [] [slF Bm 8 (.slice a xs.length cap) xs] (λe _ F1=>∃b a' c',e=.returned (.func (.func 219) #[] #[.pointer (some ⟨b,0,none⟩)])/\F1=[B9 b [.slice a' xs.length c'] 37,slF Bm 8 (.slice a' xs.length c') xs]):=by
 refine tqm [.o (.v (.slice a xs.length cap))] func147 ntmps147 λ_ _=>?_;refine Ik I5 (λ_=>I) (GR a cap xs tqO) ?_;intro a1 c1;refine Dj (D8 (j:=0) (v:=.slice a1 xs.length c1) (m:=xs.length) (enc:=Bm) (xs:=xs) (.inl I) Dy I I) ?_;exact Lp [1] [slF Bm 8 (.slice a1 xs.length c1) xs] I3 λρ=>⟨ρ 1,a1,c1,I,I⟩
def Vy (o:Nat) (kn:List Sta) (sl:List Slt):Bool:=sl.zipIdx.all λq=>decide (kn[o+q.2]? =some (Iz q.1))
theorem PW {o:Nat} {kn:List Sta} {sl:List Slt} {x:Slt} (hx:sl[k]? =some x) (hy:kn[o+k]? =some y) (h:y≠Iz x):Vy o kn sl=false:=
 Ms (MR hx) (by simp[hy,h])
theorem MJ {o:Nat} {kn:List Sta} {sl:List Slt} (h:∀k x,sl[k]? =some x->kn[o+k]? =some (Iz x)):Vy o kn sl=true:=by
 refine Rf (Ak _) λj q _ hq=>?_;obtain⟨h1,h2⟩:=VW hq;rw[h2];simp[h j q.1 h1]
theorem Aln (x:Lck) (p:LckS) (pl:Plc) (b o:Nat) (ho:(o:Int)=pl.me*pl.s) (hx:x.small) (hu:∀y∈x.slots,JE y) (hk:o+x.slots.length<=x.known.length):Cm prog 76 [.pointer (some ⟨b,0,none⟩)] [] (B9 b (Im x p pl) 116::C7 x p) (Bd (.bool (Vy o x.known x.slots))):=by
 unfold C7;have hl:=hx.2.2.1;have hl2:=hx.2.1;refine tqn [.o (.v (.pointer (some ⟨b,0,none⟩)))] func76 ntmps76 I I (λ_ _=>I) λ_ _=>?_;refine Eu (cs:=Im x p pl) (b:=b) (ct:=116) ?_;refine Aj [] [] I7 (λ_=>Alj p.a5 p.c5 x.slots hl) ?_;rintro e cs F1 _ ⟨b2,a2,c2,rfl,rfl⟩;refine Rk (γ:=Unit) (λk _=>∀j y,j<k->x.slots[j]? =some y->x.known[o+j]? =some (Iz y)) (λ_ _=>([(0,.c [.v (.pointer (some ⟨b,0,none⟩))] 113),(1,.c [.v (.bool false)] 4)],[B9 b2 [.slice a2 x.slots.length c2] 37,slF Bm 8 (.slice a2 x.slots.length c2) x.slots,B9 b (Im x p pl) 116,slF Bv 4 (.slice p.a4 x.known.length p.c4) x.known])) () (Afn a2 c2 x.slots b2 hl hu) I I I (λ_=>I) I (Ax _) (λj y hj=>by omega) ?_ tqS ?_ ?_
 ·exact Ac
 ·rintro k q- hq hyes l1 w1 A1 M1 N1 hN1;obtain⟨hq1,hq2⟩:=VW hq;obtain⟨z,kq⟩:=q;obtain rfl:kq=k:=hq2;have hkl:=(Aa.1 hq1).1;obtain⟨y,hy⟩:=A9 (xs:=x.known) (k:=o+kq);intro w2 A2 M2 N2 hN2;refine⟨I,?_⟩;refine Ec (slF Bv 4 (.slice p.a4 x.known.length p.c4) x.known) (B1 hy) ?_;rintro ⟨b4,off4,ha⟩;refine Ao [7] (tqs 0 7<| .op 10<| .op 7<|.op 8<|.op 9<| .op 11 .z) [0,2] [] [] [B9 b (Im x p pl) 116,slF Bv 4 (.slice p.a4 x.known.length p.c4) x.known] (hXN:=Bf (Fy hN2) (Cy I)) λ_=>?_;refine⟨_,Jb (v:=.slice (some ⟨b4,off4,none⟩) x.known.length p.c4) (cs:=Im x p pl) (b:=b) (ct:=116) (hv:=by rw[<-ha];rfl),?_⟩;have e0:0<=pl.me*pl.s/\pl.me*pl.s<=1000000:=by omega
  refine tqc I5 (λ_=>Akf x p pl b kq e0 tqO) ?_;refine tqQ<|⟨_,Bb (i:=o+kq) (ho:=I) (he:=I) (hx:=I) (hix:=I) (hz:=by rw[Int.natCast_add,ho]),?_⟩;refine⟨_,Cu (vs:=Bv y) (slF Bv 4 (.slice p.a4 x.known.length p.c4) x.known) λA w h=>Du hy A w (by rw[<-ha];exact h),?_⟩;refine⟨_,Ny (xs:=Bv y) (ys:=Bv (Iz z)) (r:=decide (y=Iz z)) (ks:=_) FQ QX I I I (λ_=>I) (λ_=>I) (KI _ _),?_⟩;cases h:decide (y=Iz z)
  ·rw[PW hq1 hy (by simpa using h)];refine⟨I,?_⟩;refine Yb (Oa Qo I ?_);exact Fg (Al [] I2 λ_=>⟨I,I⟩)
  ·refine⟨(),λj w hj hw=>?_,Ac (hM:=Fy hN2)⟩;rcases Bg.1 hj with h2|rfl
   ·exact hyes j w h2 hw
   ·rw[hq1] at hw;cases hw;rw[hy,Kf h]
 ·rintro- hyes;rw[MJ λk x hx=>hyes k x (by have:=(Aa.1 hx).1;simpa using this) hx];refine Yb (Oa Qo I ?_);exact Fg (Al [] I2 λ_=>⟨I,I⟩)
theorem Ak1 {W:World} {base:Nat} {e:TypeId} {v:Value} {n:Nat} {xs:List Value} (h:W.ownsRow base e k v n xs):∀g,v.ownBlock=some g->base<=g:=by
 intro g hg;rcases h.2 with ⟨rfl,_⟩|⟨g',cap,cur,rfl,hb,hh,_⟩
 ·simp[Value.ownBlock] at hg
 ·simp only[Value.ownBlock,B7] at hg;subst hg;exact hb
theorem BE {P:Program} {g:FuncId} {args:List Value} {enc:α->List Value} {xs:List α} {ty:TypeId} (hk:∀x,(enc x).length=k)
  (h:∀A w,(∀b,A b->b<w.heap.size)->(∀f∈F0,f.h A w)->Calls P g args.toArray w λe w'=>∃r,e=.returned r/\w'.ownsRow w.heap.size ty k r xs.length (xs.flatMap enc)/\Below w.heap.size w w'):
  Cm P g args [] F0 (λe _ F1=>∃a c,e=.returned (.slice a xs.length c)/\F1=[slF enc k (.slice a xs.length c) xs]):=by
 intro A w _ _ hA hF;refine(h A w hA hF).mono ?_;rintro e w' ⟨r,rfl,hown,hb⟩;have hS:=Sl.of_owns hk hown;have hbk:=Ak1 hown;obtain⟨a,c,rfl,h2,h3⟩:=hS;refine⟨[],_,⟨a,c,I,I⟩,Kp.of_below hb,I,λi x c hx=>by simp at hx,λb=>w.heap.size<=b/\b<w'.heap.size,λb h=>.inr h.1,λb h=>h.2,λf hf=>?_⟩;cases Bc.1 hf;refine⟨a,c,I,h2,h3.imp id ?_⟩;rintro ⟨b,off,rfl,h5,h6⟩;exact⟨b,off,I,⟨hbk b I,h5⟩,h6⟩
def NK (enc:α->List Value) (k:Nat) (xs:List α):Gx:=λe _ F1=>∃a c,e=.returned (.slice a xs.length c)/\F1=[slF enc k (.slice a xs.length c) xs]
theorem OE (a:Option Addr) (cap:Nat) (xs:List Int) (hlen:xs.length<=1000000):Cm prog 78 [.slice a xs.length cap] [] [slF Bt 1 (.slice a xs.length cap) xs] (NK Bt 1 xs):=BE (λ_=>I) λ_ w hA hF=>JV w _ xs tqO (Qp (hF _ (Bc.2 I)) hA)
theorem BX (a:Option Addr) (cap:Nat) (xs:List Wt) (hlen:xs.length<=1000000):Cm prog 79 [.slice a xs.length cap] [] [slF wtL 5 (.slice a xs.length cap) xs] (NK wtL 5 xs):=BE Ez λ_ w hA hF=>GS w _ xs tqO (Qp (hF _ (Bc.2 I)) hA)
theorem BW (a:Option Addr) (cap:Nat) (xs:List Hd) (hlen:xs.length<=1000000):Cm prog 80 [.slice a xs.length cap] [] [slF hdL 3 (.slice a xs.length cap) xs] (NK hdL 3 xs):=BE Dd λ_ w hA hF=>GQ w _ xs tqO (Qp (hF _ (Bc.2 I)) hA)
theorem WB (a:Option Addr) (cap:Nat) (xs:List Sta) (hlen:xs.length<=1000000):Cm prog 81 [.slice a xs.length cap] [] [slF Bv 4 (.slice a xs.length cap) xs] (NK Bv 4 xs):=BE Hh λ_ w hA hF=>DQ w _ xs tqO (Qp (hF _ (Bc.2 I)) hA)
theorem Wz (a:Option Addr) (cap:Nat) (xs:List Slt) (hlen:xs.length<=1000000):Cm prog 82 [.slice a xs.length cap] [] [slF Bm 8 (.slice a xs.length cap) xs] (NK Bm 8 xs):=BE Dy λ_ w hA hF=>DP w _ xs tqO (Qp (hF _ (Bc.2 I)) hA)
def Pe (pl:Plc) (x:Lck):Bool:=J9 pl&&Ru pl x&&Tq pl.s x.tries&&Vy (pl.me*pl.s).toNat x.known x.slots&&AS pl.n pl.l pl.s x
theorem GZ {pl:Plc} {x:Lck} (hp:J9 pl=true) (hk:Ru pl x=true):(((pl.me*pl.s).toNat:Nat):Int)=pl.me*pl.s/\(∀y∈x.slots,JE y)/\(pl.me*pl.s).toNat+x.slots.length<=x.known.length/\0<=pl.me*pl.s/\pl.me*pl.s<=1000/\(x.slots.length:Int)=pl.s/\x.slots.length<=4:=by
 simp only[J9,Ad] at hp;obtain⟨⟨⟨⟨⟨h1,⟨h2,_⟩⟩,_⟩,_⟩,_⟩,_⟩:=hp;have hs:=In h1;have hn:0<=pl.me/\pl.me<pl.n:=by simpa [Fk] using h2
 simp only[Ru,Hn,Jl,Ad,Aq] at hk;obtain⟨⟨⟨⟨_,k1⟩,_⟩,⟨⟨_,k2⟩,k3⟩⟩,_⟩:=hk;have e0:0<=pl.me*pl.s:=Sa hn.1 tqO;have e1:pl.me*pl.s<=(pl.n- 1)*pl.s:=Int.mul_le_mul_of_nonneg_right tqO tqO;have e2:(pl.n- 1)*pl.s=pl.n*pl.s- pl.s:=by rw[Int.sub_mul,Int.one_mul]
 have e3:pl.n*pl.s<=64*4:=Ph tqO tqO tqO tqO;refine⟨V0 e0,λy hy=>?_,tqO,e0,tqO,k2,tqO⟩;have hb:=Pa.1 (A6.1 k3 y hy);unfold JE;omega
theorem Ac2 {p:α->Bool} {l:List α} {y:α} (hy:l[k]? =some y) (hp:p y=true):(l.filter p)[((l.take k).filter p).length]? =some y:=by
 have hk:=(Aa.1 hy).1;have e:l.filter p=(l.take k).filter p++(l.drop k).filter p:=by rw[<-Js,Gp]
 rw[e,Dp (Ak _),Le];have h2:l.drop k=y::l.drop (k+1):=by rw[H7 hk,(Aa.1 hy).2]
 rw[h2,L7,Bi hp];rfl
theorem Ac3 {p:α->Bool} {l:List α} {y:α} (hy:l[k]? =some y):((l.take (k+1)).filter p).length=((l.take k).filter p).length+bif p y then 1 else 0:=by
 rw[Dl,hy,Js,Az];cases h:p y<;>simp[h]
def pdE (q:Sta×Nat):List Value:=[.int .i64 q.2,.agg (Bv q.1).toArray]
def pdP (q:Sta×Nat):Bool:=q.1.pend
def pdL (xs:List Sta):List (Sta×Nat):=xs.zipIdx.filter pdP
theorem Ahs (a:Option Addr) (cap:Nat) (xs:List Sta) (b:Nat) (hl:xs.length<=1000000):Y2 prog 284 [.pointer (some ⟨b,0,none⟩)] [B9 b [.slice a xs.length cap] 36,slF Bv 4 (.slice a xs.length cap) xs] pdE (pdL xs):=by
 refine Xs (tab:=tb) (ok:=R8) [.o (.v (.pointer (some ⟨b,0,none⟩)))] func284 ntmps284 I I (λ_=>I) ?_;intro S;refine Xi I ?_;refine Au (Ce (S.inF (B9 b [.slice a xs.length cap] 36)) λA w h=>L9 (o:=0) I _ w h.2) ?_;refine Rj (γ:=Nat) (λk=>k<=xs.length) (λk=>[(7,.o (.v (.int .i64 k)))]) (λ_=>[]) (λk=>[S.jF ((xs.zipIdx.take k).filter pdP).length,S.inF (slF Bv 4 (.slice a xs.length cap) xs)]) (λk=>xs.length- k) 0 (Ax _) (Ac (hM:=by simp[It.X])) ?_;intro k hk;refine Ai (λh1=>?_) λh1=>?_
 ·obtain⟨x,hx⟩:=A9 (xs:=xs) (k:=k);refine Dk (S.inF (slF Bv 4 (.slice a xs.length cap) xs)) (λA w h=>B1 hx _ w h.2) ?_;rintro ⟨b1,off,rfl⟩;refine Au Bb ?_;refine Au (Cu (vs:=Bv x) (S.inF (slF Bv 4 (.slice (some ⟨b1,off,none⟩) xs.length cap) xs)) λA w h=>Du hx _ w h.2) ?_;have hz:=MR hx;have ht:=Ac3 (p:=pdP) hz;refine A7 (λh2=>?_) λh2=>?_
  ·have hp:pdP (x,k)=true:=h2;rw[hp,Ci] at ht;have hat:=Ac2 hz hp;refine Rz _ [slF Bv 4 (.slice (some ⟨b1,off,none⟩) xs.length cap) xs] I I I I hat (λ_=>I) tqS tqS ?_ ?_
   ·refine Af (z:=(k+1:Nat)) ?_;refine⟨k+1,tqO,tqP,?_⟩;simp only[ht];exact Ac (hM:=by simp[It.X])
   ·exact Px (((xs.zipIdx.take k).filter pdP).length+1) tqS tqO (by have:=(Aa.1 hat).1;exact this) I I
  ·have hp:pdP (x,k)=false:=h2;rw[hp,By,Eb] at ht;refine Af (z:=(k+1:Nat)) ?_;refine⟨k+1,tqO,tqP,?_⟩;simp only[ht];exact Ac (hM:=by simp[It.X])
 ·obtain rfl:k=xs.length:=by omega
  have e:((xs.zipIdx.take xs.length).filter pdP).length=(pdL xs).length:=by
   rw[Dm (by rw[List.length_zipIdx];exact Ak _)];rfl
  rw[e];exact Og tqS I I
theorem Aes (a:Option Addr) (cap:Nat) (xs:List Sta) (hl:xs.length<=1000000):Cm prog 226 [.slice a xs.length cap] [] [slF Bv 4 (.slice a xs.length cap) xs] (λe _ F1=>∃b a' c',e=.returned (.func (.func 284) #[] #[.pointer (some ⟨b,0,none⟩)])/\F1=[B9 b [.slice a' xs.length c'] 36,slF Bv 4 (.slice a' xs.length c') xs]):=by
 refine tqm [.o (.v (.slice a xs.length cap))] func226 ntmps226 λ_ _=>?_;refine Aj [] [] I7 (λ_=>WB a cap xs hl) ?_;rintro e cs F1 _ ⟨a1,c1,rfl,rfl⟩;exact Lp [0] [slF Bv 4 (.slice a1 xs.length c1) xs] I3 λρ=>⟨ρ 0,a1,c1,I,I⟩
section
variable {X:Fx} {o:Oper} {T T':TE} {L L':LE} {n n':Nat} {F F':List Fact} {D:DF} {K:KK} {k:KS} {c:Code}
theorem Ni (T':TE) (L':LE) (n':Nat) (F':List Fact) (hw:Wk X T L n F D ⟨T',L',n',F',D⟩) (h:OJs X o T' L' n' F' D k K):OJs X o T L n F D k K:=O6 hw h
theorem K5 (T':TE) (L':LE) (n':Nat) (F':List Fact) (hw:Wk X T L n F D ⟨T',L',n',F',D⟩) (h:CJs X c T' L' n' F' D K):CJs X c T L n F D K:=λQ hQ a w hr=>h Q hQ a w (hw a w hr)
end
theorem Cx.mono {P:Program} {g:FuncId} {us:List TV} {mu:List XB} {Out Out':Ku} (h:Cx P g us mu F0 Out) (hO:∀r Ls F1,Out r Ls F1->Out' r Ls F1):Cx P g us mu F0 Out':=λρ A w h1 h2 h3 h4=>(h ρ A w h1 h2 h3 h4).mono λ_ _ ⟨r,Ls,F1,ρ',A',ho,hp⟩=>⟨r,Ls,F1,ρ',A',hO _ _ _ ho,hp⟩
theorem Cm.mono {P:Program} {g:FuncId} {args:List Value} {mu:List MB} {Out Out':Gx} (h:Cm P g args mu F0 Out) (hO:∀e cs F1,Out e cs F1->Out' e cs F1):Cm P g args mu F0 Out':=λA w h1 h2 h3 h4=>(h A w h1 h2 h3 h4).mono λ_ _ ⟨cs,F1,ho,hr⟩=>⟨cs,F1,hO _ _ _ ho,hr⟩
def Aim (x:Tok) (p:Sls) (k:Nat):List SV:=[.v (.int .i64 x.age),.s k 0 x.seq.length p.c1,.v (.slice p.a2 x.q.length p.c2),.v (.slice p.a3 x.hs.length p.c3),.v (.int .i64 x.c.value),.v (.int .i64 x.c.floor),.v (.int .u64 x.c.version)]
def Zu (x:Tok) (p:Sls):List Fact:=[slF wtL 5 (.slice p.a2 x.q.length p.c2) x.q,slF hdL 3 (.slice p.a3 x.hs.length p.c3) x.hs]
def Ak0 (x:Tok):Ku:=λr Ls F1=>∃p' junk,x.seq.length<=p'.c1/\r=.inl (.g (Aim x p' 0))/\Ls=[.r (x.seq.flatMap Bt++junk) 2]/\F1=Zu x p'
theorem Aik (x:Tok) (p:Sls) (hx:x.small) (h0:0<x.seq.length):Cx prog 202 [.g (Ps x p)] [] (Bs x p) (Ak0 x):=by
 obtain⟨hx1,hx2,hx3⟩:=hx;obtain⟨age,seq,q,hs,⟨cv,cf,cn⟩⟩:=x;dsimp only at hx1 hx2 hx3 h0;obtain⟨a1,c1,a2,c2,a3,c3⟩:=p;unfold Bs;dsimp only;refine tqx func202 ntmps202 ?_;intro ρ w0 A0;refine Ao [2,5,8,10,12,14] (.op 0<|.op 1<| .op 3<|.op 4<| .op 6<|.op 7<| .op 2<| .op 9<| .op 5<| .op 8<| tqs 10 4<| .op 14 .z) [0] [(10,0),(12,0),(14,0)] [] [] λ_=>?_;refine Cf (mu:=[]) [] I7 trivial ((OF a1 c1 seq tqO).cx (us:=[.o (.v (.slice a1 seq.length c1))]) (λ_=>I) h0) ?_;rintro r Ls F1 ⟨c1',junk,hc,rfl,rfl,rfl⟩;refine tqQ<|Aj [] [] I7 (λ_=>BX a2 c2 q hx2) ?_;rintro e cs F1 _ ⟨x2,y2,rfl,rfl⟩;refine tqQ<|Aj [] [] I7 (λ_=>BW a3 c3 hs hx3) ?_;rintro e cs F1 _ ⟨x3,y3,rfl,rfl⟩;exact tqQ<|tqQ<|tqQ<|tqQ<|Dg [2] (.g (Aim ⟨age,seq,q,hs,⟨cv,cf,cn⟩⟩ ⟨none,c1',x2,y2,x3,y3⟩ 0)) [.r (seq.flatMap Bt++junk) 2] (Zu ⟨age,seq,q,hs,⟨cv,cf,cn⟩⟩ ⟨none,c1',x2,y2,x3,y3⟩) ⟨I,trivial⟩ ⟨⟨none,c1',x2,y2,x3,y3⟩,junk,hc,I,I,I⟩ (hF:=by simp[Zu])
def Acb (x:Tok) (p:Sls) (k:Nat) (n l s:Int):List SV:=Aim x p k++[.v (.int .i64 n),.v (.int .i64 l),.v (.int .i64 s)]
theorem Ab7 (n l s:Int) (x:Tok) (p:Sls) (junk:List Value) (hx:x.small) (hc:x.seq.length<=p.c1):Cx prog 203 [.g (Acb x p 0 n l s)] [.r (x.seq.flatMap Bt++junk) 2] (Zu x p) (λr Ls F1=>r=.inl (.o (.v (.bool (Fq n l s x))))/\Ls=[.r (x.seq.flatMap Bt++junk) 2]/\F1=[]):=by
 have h:=Anv (us:=[.g (Acb x p 0 n l s)]) (mu:=[(x.seq.flatMap Bt++junk,2)]) (F0:=Zu x p) (λρ=>(MC n l s x ⟨some ⟨ρ 0,0,none⟩,p.c1,p.a2,p.c2,p.a3,p.c3⟩ hx).facts (λA w h f hf=>by
  simp only[Bs,Ap,Bw,Ed] at hf;rcases hf with rfl|rfl|rfl
  ·exact Wj (enc:=Bt) I hc (λ_=>I) (h (B9 (ρ 0) (x.seq.flatMap Bt++junk) 2) (by simp[roF]))
  ·exact h _ (by simp[Zu])
  ·exact h _ (by simp[Zu]))) tqH (by rintro cs F1 ⟨h,_⟩;cases h)
 exact Cx.mono h (by
  rintro r Ls F1 ⟨rfl,rfl,⟨v,rfl,h1,_⟩|⟨ch,rfl,h1,_⟩⟩
  ·cases h1;exact⟨I,I,I⟩
  ·cases h1)
def YS (n l s:Int) (x:Tok):Ku:=λr Ls F1=>(Fq n l s x=true/\∃p' junk,x.seq.length<=p'.c1/\r=.inl (.o (.p 0 0))/\Ls=[.c (Acb x p' 1 n l s) 213,.r (x.seq.flatMap Bt++junk) 2]/\F1=Zu x p')\/(Fq n l s x=false/\r=.inr Ail/\Ls=[]/\F1=[])
theorem Aii (n l s:Int) (x:Tok) (p:Sls) (hx:x.small):Cx prog 134 [.g [.v (.int .i64 n),.v (.int .i64 l),.v (.int .i64 s)],.g (Ps x p)] [] (Bs x p) (YS n l s x):=by
 by_cases h0:x.seq.length=0
 ·refine Cx.mono (GD n l s x p hx) ?_;rintro r Ls F1 (⟨hB,p',rfl,rfl,rfl⟩|h)
  ·exfalso;simp only[Fq,Ad,Kq] at hB;have:=Um hB.1.1.1.1.1.1.1.1.1;omega
  ·exact .inr h
 have hO:=Aik x p hx tqO;refine tqx func134 ntmps134 ?_;intro ρ w0 A0;refine Ao [1,3,4] (.op 0<| .op 2<| .op 1<| .op 3<|.op 4<| .op 5 .z) [0,1] [] [] [] λ_=>?_;refine Cf (mu:=[]) [] I7 trivial hO ?_;rintro r Ls F1 ⟨p',junk,hc,rfl,rfl,rfl⟩;refine tqQ<|tqQ<|tqQ<|Cf (mu:=[.r (x.seq.flatMap Bt++junk) 2]) [2] I7 ⟨I,trivial⟩ (Ab7 n l s x p' junk hx hc) (hF0:=λf hf=>by simp[hf]) ?_;rintro r Ls F1 ⟨rfl,rfl,rfl⟩;unfold YS;cases hB:Fq n l s x
 ·refine Aj [] [] I7 (λ_=>Oc false 2) ?_;rintro e cs F1 _ ⟨⟨hb,rfl⟩|⟨hb,rfl⟩,rfl⟩
  ·cases hb
  exact Uh [] [] [] I ⟨I,I⟩ I I tqS trivial I (.inr ⟨I,I,I,I⟩) tqS
 ·refine Aj [] [] I7 (λ_=>Oc true 2) ?_;rintro e cs F1 _ ⟨⟨hb,rfl⟩|⟨hb,rfl⟩,rfl⟩;rotate_left
  ·cases hb
  exact Dg [3,2] (.o (.p 0 0)) [.c (Acb x p' 1 n l s) 213,.r (x.seq.flatMap Bt++junk) 2] (Zu x p') ⟨I,I,trivial⟩ (.inl ⟨I,p',junk,hc,I,I,I⟩) (hF:=by simp[Zu])
end Go.Proofs.YtjofafbkkpdgbaaGreat
