/- A part of the proof of LockOpens: rules and contracts. No condition. -/
import Derived.Test.YtjofafbkkpdgbaaGreatPnas
set_option maxRecDepth 100000
set_option maxHeartbeats 4000000
set_option linter.all false
namespace Go.Proofs.YtjofafbkkpdgbaaGreat
open Go.Proofs.Tryz
open Go.RowKit Go.Shelf
theorem ST:Cm prog 36 [] [] [] (λe cs F1=>e=.returned (.tuple #[])/\cs=[]/\F1=[]):=by
 refine tqm [] func36 ntmps36 λ_ _=>?_;exact Al [] I2 λ_=>⟨I,I,I⟩
def KR (pl:Plc) (x:Lck):Int:=bif Pe pl x then 0 else 2
theorem WH (pl:Plc) (x:Lck) (p:LckS) (hx:x.small):Cm prog 10 [.agg (O8 pl).toArray,.agg (Jd x p).toArray] [] (C7 x p) (Bd (.int .i64 (KR pl x))):=by
 have hO:=OT pl x p hx;unfold KR;refine tqn [.g ((O8 pl).map SV.v),.g ((Jd x p).map SV.v)] func10 ntmps10 I I (λ_ _=>I) λ_ _=>?_;refine AZ I I I I I I I I ?_;refine Cf (mu:=[]) [] I7 trivial hO ?_;rintro r Ls F1 (⟨hB,p',jt,jk,_,_,rfl,rfl,rfl⟩|⟨hB,rfl,rfl,rfl⟩)
 ·refine Lm Wx (Df func21 tqK I) (Fg ?_);rw[hB];exact tqE
 ·refine Rb [] Z3 (Df func21 tqK I) (Df func36 tqK I) I tqS (λρ=>ST) I (Fg ?_);rw[hB];exact tqE
theorem WW (x:Lck) (p:LckS) (pl:Plc) (junk:List Value) (a:Option Addr) (c:Nat) (qs:List (Ltr×Sls)) (hh:x.has=false):Cx prog 39 [.o (.p 0 0)] [.c (Gl x p pl 1 x.tries.length (.slice a qs.length c)) 116,.r (x.tries.flatMap Bz++junk) 104] (C5 (.slice a qs.length c) qs::G7 x p) (NQ x p pl junk qs):=by
 have hE:=AL (pl:=pl) hh;refine tqx func39 ntmps39 ?_;intro ρ w0 A0;refine JT 0 (γ:=Unit) (λ_=>True) (λ_=>[(0,.o (.p 0 0))]) (λ_=>[(0,.c (Gl x p pl 1 x.tries.length (.slice a qs.length c)) 116),(1,D9 (x.tries.flatMap Bz++junk) 104)]) (λ_=>C5 (.slice a qs.length c) qs::G7 x p) (λ_=>0) () trivial I ?_ ?_
 ·exact Ac
 rintro ⟨⟩ -;conv=>whnf
 rw[hh];exact Dg [0,1] (.t []) [.c (Gl x p pl 1 x.tries.length (.slice a qs.length c)) 116,.r (x.tries.flatMap Bz++junk) 104] (C5 (.slice a qs.length c) qs::G7 x p) ⟨I,I,trivial⟩ ⟨p,a,c,[],I,I,I,by rw[hE];rfl,I,by rw[hE,Bu],by rw[hE,Bu]⟩
theorem WV (x:Lck) (p:LckS) (pl:Plc) (junk:List Value) (a:Option Addr) (c:Nat) (qs:List (Ltr×Sls)) (H:x.has=true->SetH pl x) (hq:qs.length<=90000):Cx prog 39 [.o (.p 0 0)] [.c (Gl x p pl 1 x.tries.length (.slice a qs.length c)) 116,.r (x.tries.flatMap Bz++junk) 104] (C5 (.slice a qs.length c) qs::G7 x p) (NQ x p pl junk qs):=by
 cases hh:x.has
 ·exact WW x p pl junk a c qs hh
 ·exact Ah8 x p pl junk a c qs (H hh) hq
theorem JB {pl:Plc}:∀(f:Nat) (x:Lck),SetH pl x->(Gu pl f x).1.small/\(Gu pl f x).1.tries.length=x.tries.length/\(∀y∈(Gu pl f x).2,y.tok.small)/\(Gu pl f x).2.length<=f
 |0,x,H=>⟨H.small,I,(λy hy=>by cases hy),Ax _⟩
 |f+1,x,H=>by
  have hL:=H.learns;have hlen:(Dh pl x).tries.length=x.tries.length:=by have h1:=hL.tries;have h2:=H.tries;omega
  unfold Gu;cases hon:(!x.has||pl.still);rotate_left
  ·exact⟨H.small,I,(λy hy=>by cases hy),Ax _⟩
  rw[By];cases hg:L3 pl.s pl.me (Dh pl x).tok with
  |some to=>
   dsimp only;obtain⟨⟨g1,g2,g3⟩,g4,g5,g6⟩:=hL.small;cases decide ((Dh pl x).last<1099511627776)
   ·exact⟨hL.small,hlen,(λy hy=>by cases hy),Ax _⟩
   ·refine⟨⟨⟨g1,g2,g3⟩,g4,g5,?_⟩,?_,λy hy=>?_,?_⟩
    ·show ((Dh pl x).tries.map (Qn pl.now)).length<=_
     rw[Cr];exact g6
    ·show ((Dh pl x).tries.map (Qn pl.now)).length=_
     rw[Cr];exact hlen
    ·have e:y=Of (Dh pl x) pl to:=Bc.1 hy;subst e;exact⟨g1,g2,g3⟩
    ·show 1<=f+1
     omega
  |none=>
   dsimp only;cases hn:Kt pl.limit (Dh pl x).tok.q (Et (Dh pl x).tok.hs) with
   |none=>exact⟨hL.small,hlen,(λy hy=>by cases hy),Ax _⟩
   |some u=>
    dsimp only;have hGr:=GrtH.of hL.tok hn;obtain⟨k1,k2,k3,k4⟩:=JB f (grT (Dh pl x) u) ⟨hL.place,hL.known,hL.slots,hGr.ok,hL.tries⟩;refine⟨k1,k2.trans hlen,λy hy=>?_,?_⟩
    ·rcases B4.1 hy with hy|hy
     ·unfold Ie at hy;cases hb:(!((Dv u).site.tdiv pl.s == pl.me)&& !((Dv u).mode == 5))
      ·rw[hb] at hy;cases hy
      ·rw[hb] at hy;rw[Bc.1 hy];exact Sz
     ·exact k3 y hy
    ·rw[Az];have:=GV pl (grT (Dh pl x) u) (Dv u);omega
theorem Ah7 {pl:Plc} {x:Lck} (hx:x.small):(Qe pl x).1.small/\(∀y∈(Qe pl x).2.1,y.tok.small)/\(Qe pl x).2.1.length<=600:=by
 unfold Qe;cases hB:Pe pl x
 ·exact⟨⟨Sz,by simp[Ig],by simp[Ig],by simp[Ig]⟩,(λy hy=>by cases hy),Ax _⟩
 rw[Ci];cases hh:x.has
 ·rw[AL hh];exact⟨hx,(λy hy=>by cases hy),Ax _⟩
 ·obtain⟨k1,_,k3,k4⟩:=JB 600 x (AB hB hh).1;exact⟨k1,k3,k4⟩
theorem Aff (b c:Nat):Cm prog 38 [.pointer (some ⟨b,0,none⟩),.pointer (some ⟨c,0,none⟩)] [(b,Jd Ig Ia,40),(c,[.slice none 0 0],53)] [] (λe cs F1=>e=.returned (.tuple #[])/\cs=[Jd Ig Ia,[.slice none 0 0]]/\F1=[]):=by
 refine tqm [.o (.p 0 0),.o (.p 1 0)] func38 ntmps38 (hargs:=λρ h=>by simp[TV.den,SV.den,h 0 b I,h 1 c I]) λ_ _=>?_;exact Al [] I2 λ_=>⟨I,I,I⟩
theorem SW (pl:Plc) (x:Lck) (p:LckS) (hx:x.small):Cm prog 11 [.agg (O8 pl).toArray,.agg (Jd x p).toArray] [] (C7 x p) (Amk .i64 (Qe pl x)):=by
 have hO:=OT pl x p hx;refine tqn [.g ((O8 pl).map SV.v),.g ((Jd x p).map SV.v)] func11 ntmps11 I I (λ_ _=>I) λ_ _=>?_;refine Sp I I I I I I I I ?_;refine Cf (mu:=[]) [] I7 trivial hO ?_;rintro r Ls F1 (⟨hB,p',jt,jk,hc4,hc6,rfl,rfl,rfl⟩|⟨hB,rfl,rfl,rfl⟩);rotate_left
 ·refine Rb [2,3] Z3 (Df func21 tqK I) (Df func38 tqK I) I tqS (λρ=>Aff _ _) I (Fg ?_);rw[show Qe pl x=(Ig,[],2) by unfold Qe;rw[hB];rfl];refine Eh (C5 (.slice none 0 0) []::C7 Ig Ia) (λA w _ f hf=>(Ap.1 hf).elim (λe=>e ▸ CG) λh=>So f h) ?_;exact Al (C5 (.slice none 0 0) []::C7 Ig Ia) I2 λ_=>⟨Ia,none,0,[],I,I,I⟩
 obtain⟨P,hP⟩:∃P:Nat->LckS,P=λg4=>⟨p'.tok,some ⟨g4,0,none⟩,p'.c4,p'.a5,p'.c5,none,p'.c6⟩:=⟨_,I⟩;have hS:=λg4=>WV x (P g4) pl jt none 0 [] (λhh=>(AB hB hh).1) tqS;have hlen:(Gu pl 600 x).1.tries.length=x.tries.length:=by
  cases hh:x.has
  ·rw[AL hh]
  ·exact(JB 600 x (AB hB hh).1).2.1
 have e2:Qe pl x=((Gu pl 600 x).1,(Gu pl 600 x).2,0):=by unfold Qe;rw[hB];rfl
 rw[e2];refine Ad1 7 I I I I λg4=>?_;refine Oq (C5 (.slice none 0 0) []::G7 x (P g4)) (λA w h f hf=>by
  subst hP;rcases Ap.1 hf with rfl|hf
  ·exact CG
  simp only[G7,B4,Ap,Bw,Ed] at hf;rcases hf with hf|rfl|rfl
  ·exact h f (by simp[hf])
  ·exact Wj (enc:=Bv) I hc4 Hh (h (B9 g4 (x.known.flatMap Bv++jk) 74) tqS)
  ·exact h _ tqS) ?_
 refine Ni [(12,.o (.p 5 0)),(7,.o (.p 5 0)),(4,.o (.p 2 0)),(5,.o (.p 3 0)),(6,.o (.p 4 0))] [(5,.c (Gl x (P g4) pl 6 x.tries.length (.slice none 0 0)) 116),(6,D9 (x.tries.flatMap Bz++jt) 104),(2,.c ((Jd Ig Ia).map SV.v) 40),(3,.c [.v (.slice none 0 0)] 53),(4,.c [.v (.int .i64 0)] 45)] 8 (C5 (.slice none 0 0) []::G7 x (P g4)) (by subst hP;exact Ac (hD:=Tx I I)) ?_;refine Cf (mu:=[.c (Gl x (P g4) pl 1 x.tries.length (.slice none 0 0)) 116,.r (x.tries.flatMap Bz++jt) 104]) [5,6] I7 ⟨I,I,trivial⟩ (hS g4) ?_;rintro r Ls F1 ⟨p3,a1,c1,ls,e4,e5,e6,els,rfl,rfl,rfl⟩;have hc6':x.tries.length<=p3.c6:=by rw[e6,hP];exact hc6
 rw[Cs];generalize Gu pl 600 x=R at*;obtain⟨Z,ys⟩:=R;dsimp only at*;refine Acu 6 I I I I λg6=>?_;obtain⟨p4,hp4⟩:∃p4:LckS,p4=⟨p3.tok,p3.a4,p3.c4,p3.a5,p3.c5,some ⟨g6,0,none⟩,p3.c6⟩:=⟨_,I⟩;refine Pw (C5 (.slice a1 ls.length c1) ls::C7 Z p4) (λA w h f hf=>by
  subst hp4;rcases Ap.1 hf with rfl|hf
  ·exact h _ tqS
  rcases Ze hf with hf|rfl
  ·have h2:f∈G7 Z p3:=hf;exact h f (by simp[h2])
  ·exact Wj (enc:=Bz) I (by dsimp only;omega) Fh (h (B9 g6 (Z.tries.flatMap Bz++jt) 104) tqS)) ?_
 refine K5 [(7,.o (.p 5 0)),(4,.o (.p 2 0)),(5,.o (.p 3 0)),(6,.o (.p 4 0))] [(5,.c ((JI Z p4 pl (.slice (some ⟨g6,0,none⟩) Z.tries.length p4.c6) (.slice a1 ls.length c1)).map SV.v) 116),(2,.c ((Jd Ig Ia).map SV.v) 40),(3,.c [.v (.slice none 0 0)] 53),(4,.c [.v (.int .i64 0)] 45)] 8 (C5 (.slice a1 ls.length c1) ls::C7 Z p4) (by subst hp4;exact Ac (hD:=Tx I I)) ?_;refine Ao [8,9,10] (tqs 0 10<| .op 10 .z) [5] [(8,2),(9,3),(10,4)] [] [] λ_=>?_;refine tqQ<|tqQ<|tqQ<|Lm Wx (Df func21 tqK I) (Fg ?_);exact Al (C5 (.slice a1 ls.length c1) ls::C7 Z p4) I2 λ_=>⟨p4,a1,c1,ls,els,by subst hp4;rfl,I⟩
def N8:Slt:=⟨0,0,0,0,0,MW⟩
def Af0 {α:Type} (enc:α->List Value) (k:Nat) (ok:Bool) (m:Nat) (z:α):Gx:=λe _ F1=>(ok=true/\∃a,e=.returned (.tuple #[.slice a m m,.int .i64 0])/\F1=[slF enc k (.slice a m m) (List.replicate m z)])\/(ok=false/\e=.returned (.tuple #[.slice none 0 0,.int .i64 2])/\F1=[])
theorem Afm (n l s:Int):Cm prog 26 [.agg #[.int .i64 n,.int .i64 l,.int .i64 s]] [] [] (Af0 Bv 4 (Ef n l s) (H8 n l s).length Je):=by
 refine tqm [.g [.v (.int .i64 n),.v (.int .i64 l),.v (.int .i64 s)]] func26 ntmps26 λ_ _=>?_;have hsl:=Uy (n:=n) (l:=l) (s:=s);have hsi:=λh=>Sx (n:=n) (l:=l) (s:=s) h;refine tqc I5 (λ_=>BQ n l s) ?_;generalize (H8 n l s).length=m at hsl hsi;unfold Nu;cases hs:Ef n l s
 ·exact Al [] I2 λ_=>.inr ⟨I,I,I⟩
 refine Ca (m:=m) ?_;intro a1;have hmade:(madeCells ([1,0,1,1].map Te).toArray (m*4)).toList=(List.replicate m Je).flatMap Bv:=P0 (enc:=Bv) (z:=Je) tqD I m;have hl:(List.replicate m Je).length=m:=Cj;refine Dj (D8 (j:=1) (v:=.slice a1 m m) (m:=m) (enc:=Bv) (xs:=List.replicate m Je) (.inl I) (λ_=>I) hl.symm (Fb (λc=>some (LC.own (.slice a1 m m) 74 4 m c)) hmade)) ?_;exact Al [slF Bv 4 (.slice a1 m m) (List.replicate m Je)] I2 λ_=>.inl ⟨I,a1,I,I⟩
theorem Afi (n l s:Int):Cm prog 28 [.agg #[.int .i64 n,.int .i64 l,.int .i64 s]] [] [] (Af0 Bm 8 (Ef n l s) s.toNat N8):=by
 refine tqm [.g [.v (.int .i64 n),.v (.int .i64 l),.v (.int .i64 s)]] func28 ntmps28 λ_ _=>?_;refine tqc I5 (λ_=>Qz n l s) ?_;unfold Nu;cases hs:Ef n l s
 ·exact Al [] I2 λ_=>.inr ⟨I,I,I⟩
 have h4:=(In hs).2.2;obtain⟨m,hm⟩:∃m:Nat,s=(m:Int):=⟨s.toNat,tqO⟩;subst hm;rw[Ej];refine Ca (m:=m) ?_;intro a1;have hmade:(madeCells ([1,1,1,1,1,1,1,2].map Te).toArray (m*8)).toList=(List.replicate m N8).flatMap Bm:=P0 (enc:=Bm) (z:=N8) tqD I m;have hl:(List.replicate m N8).length=m:=Cj;refine Dj (D8 (j:=1) (v:=.slice a1 m m) (m:=m) (enc:=Bm) (xs:=List.replicate m N8) (.inl I) (λ_=>I) hl.symm (Fb (λc=>some (LC.own (.slice a1 m m) 88 8 m c)) hmade)) ?_;exact Al [slF Bm 8 (.slice a1 m m) (List.replicate m N8)] I2 λ_=>.inl ⟨I,a1,I,I⟩
def Nq (m:Nat) (c:Ctr):Tok:=⟨0,List.replicate m 0,[],[],c⟩
def NU (n l s:Int) (c:Ctr):Gx:=λe _ F1=>((Ef n l s&&Ho c)=true/\∃a,e=.returned (.tuple #[.agg (G5 (Nq (H8 n l s).length c) ⟨a,(H8 n l s).length,none,0,none,0⟩).toArray,.int .i64 0])/\F1=[slF Bt 1 (.slice a (Nq (H8 n l s).length c).seq.length (H8 n l s).length) (Nq (H8 n l s).length c).seq])\/((Ef n l s&&Ho c)=false/\e=.returned (.tuple #[.agg (G5 Fd Dx).toArray,.int .i64 2])/\F1=[])
theorem Aih (n l s:Int) (c:Ctr):Cm prog 30 [.agg #[.int .i64 n,.int .i64 l,.int .i64 s],.agg (Ke c).toArray] [] [] (NU n l s c):=by
 unfold NU;refine tqm [.g [.v (.int .i64 n),.v (.int .i64 l),.v (.int .i64 s)],.g ((Ke c).map SV.v)] func30 ntmps30 λ_ _=>?_;have hsl:=Uy (n:=n) (l:=l) (s:=s);have hsi:=λh=>Sx (n:=n) (l:=l) (s:=s) h;refine tqc I5 (λ_=>BQ n l s) ?_;generalize (H8 n l s).length=m at*;unfold Nu;cases hs:Ef n l s
 ·exact Al [] I2 λ_=>.inr ⟨I,I,I⟩
 refine tqc I5 (λ_=>Vd c) ?_;cases hc:Ho c
 ·have hE:S9 c=2:=by simp[S9,hc]
  rw[hE];exact Al [] I2 λ_=>.inr ⟨I,I,I⟩
 have hE:S9 c=0:=by simp[S9,hc]
 rw[hE];refine Ao [1,3,4] (.op 0<| .op 2<| .op 1<| .op 3<|.op 4<| .op 5 .z) [1] [] [] [] λ_=>?_;refine Ca (m:=m) ?_;intro a1;refine tqQ<|tqQ<|tqQ ?_;have hmade:(madeCells ([1].map Te).toArray (m*1)).toList=(List.replicate m (0:Int)).flatMap Bt:=P0 (enc:=Bt) (z:=0) tqD I m;have hl:(List.replicate m (0:Int)).length=m:=Cj;refine Dj (D8 (j:=3) (v:=.slice a1 m m) (m:=m) (enc:=Bt) (xs:=List.replicate m (0:Int)) (.inl I) (λ_=>I) hl.symm (Fb (λc=>some (LC.own (.slice a1 m m) 2 1 m c)) hmade)) ?_;refine Al [slF Bt 1 (.slice a1 (Nq m c).seq.length m) (Nq m c).seq] I2 (λ_=>.inl ⟨I,a1,by simp only[Nq,G5,hl];rfl,I⟩) (hF:=by simp[Nq,hl])
theorem Abc (n l s:Int) (m:Nat) (hm:(m:Int)=n*s) (hm2:m<=256):Cm prog 33 [.agg #[.int .i64 n,.int .i64 l,.int .i64 s]] [] [] (λe _ F1=>∃a,e=.returned (.slice a m m)/\F1=[slF Bv 4 (.slice a m m) (List.replicate m Je)]):=by
 refine tqm [.g [.v (.int .i64 n),.v (.int .i64 l),.v (.int .i64 s)]] func33 ntmps33 λ_ _=>?_;refine Af (z:=(m:Int)) (hz:=by rw[<-hm,Ey]<;>omega) (ho:=I) (hx:=I) (hy:=I) (hr:=I) ?_;refine Ca (m:=m) ?_;intro a1;have hmade:(madeCells ([1,0,1,1].map Te).toArray (m*4)).toList=(List.replicate m Je).flatMap Bv:=P0 (enc:=Bv) (z:=Je) tqD I m;have hl:(List.replicate m Je).length=m:=Cj;refine Dj (D8 (j:=1) (v:=.slice a1 m m) (m:=m) (enc:=Bv) (xs:=List.replicate m Je) (.inl I) (λ_=>I) hl.symm (Fb (λc=>some (LC.own (.slice a1 m m) 74 4 m c)) hmade)) ?_;exact Al [slF Bv 4 (.slice a1 m m) (List.replicate m Je)] I2 λ_=>⟨a1,I,I⟩
theorem Abd (n l s:Int) (c:Ctr) (m:Nat) (hm:(m:Int)=n*s) (hm2:m<=256) (hs:Ef n l s=true) (hc:Ho c=true):Cm prog 34 [.agg #[.int .i64 n,.int .i64 l,.int .i64 s],.agg (Ke c).toArray] [] [] (λe _ F1=>∃a,e=.returned (.tuple #[.agg (G5 (Nq m c) ⟨a,m,none,0,none,0⟩).toArray,.int .i64 0])/\F1=[slF Bt 1 (.slice a (Nq m c).seq.length m) (Nq m c).seq]):=by
 have hS:=Ss n l s;have hT:=O9 c;rw[hs] at hS;rw[hc] at hT;refine tqm [.g [.v (.int .i64 n),.v (.int .i64 l),.v (.int .i64 s)],.g ((Ke c).map SV.v)] func34 ntmps34 λ_ _=>?_;refine tqc I5 (λ_=>hS) ?_;refine tqc I5 (λ_=>hT) ?_;refine Ao [5,8] (tqs 0 5<| .op 6<| .op 5<| .op 7<|.op 8<| .op 9 .z) [0,1] [(8,2)] [] [] λ_=>?_;refine⟨_,Cb (z:=(m:Int)) (ho:=I) (hx:=I) (hy:=I) (hr:=I) (hz:=by rw[<-hm,Ey]<;>omega),?_⟩;refine Ca (m:=m) ?_;intro a1;refine tqQ<|⟨_,Ee,?_⟩;refine tqQ ?_;have hmade:(madeCells ([1].map Te).toArray (m*1)).toList=(List.replicate m (0:Int)).flatMap Bt:=P0 (enc:=Bt) (z:=0) tqD I m;have hl:(List.replicate m (0:Int)).length=m:=Cj;refine Dj (D8 (j:=3) (v:=.slice a1 m m) (m:=m) (enc:=Bt) (xs:=List.replicate m (0:Int)) (.inl I) (λ_=>I) hl.symm (Fb (λc=>some (LC.own (.slice a1 m m) 2 1 m c)) hmade)) ?_;refine Al [slF Bt 1 (.slice a1 (Nq m c).seq.length m) (Nq m c).seq] I2 (λ_=>⟨a1,by simp only[Nq,G5,hl];rfl,I⟩) (hF:=by simp[Nq,hl])
def Jm:Try:=⟨-1,0,0⟩
abbrev opC (pl:Plc) (tree:Bool) (m:Nat) (a4 a5 a6:Option Addr):List SV:=[.v (.bool tree),.v (.bool false),.v (.int .i64 0),.v (.slice none 0 0),.v (.slice none 0 0),.v (.slice none 0 0),.v (.int .i64 0),.v (.int .i64 0),.v (.int .u64 0),.v (.int .i64 0),.v (.int .i64 (pl.lock.tmod pl.n)),.v (.int .i64 1),.v (.slice a4 m m),.v (.slice a5 pl.s.toNat pl.s.toNat),.v (.slice a6 pl.s.toNat pl.s.toNat)]
abbrev opT (pl:Plc) (A:Nat):TE:=[(10,.o (.v (.int .i64 0))),(9,.o (.p A 0)),(8,.o (.v (.int .i64 (pl.lock.tmod pl.n)))),(3,.o (.p 0 0)),(5,.o (.p 1 0)),(6,.o (.p 2 0))]
abbrev opX (pl:Plc) (tree:Bool) (c:Ctr) (m:Nat) (a4 a5 a6:Option Addr) (ss rr:List Value) (A S R:Nat):LE:=[(A,.c (opC pl tree m a4 a5 a6) 40),(S,.own (.slice a5 pl.s.toNat pl.s.toNat) 88 8 pl.s.toNat ss),(R,.own (.slice a6 pl.s.toNat pl.s.toNat) 104 3 pl.s.toNat rr),(0,.c ((O8 pl).map SV.v) 25),(1,.c ((Ke c).map SV.v) 31),(2,.c ((Jd Ig Ia).map SV.v) 40)]
def CO (pl:Plc) (tree:Bool) (c:Ctr):Lck:=
 let m:=(H8 pl.n pl.l pl.s).length
 bif pl.lock.tmod pl.n == pl.me then⟨tree,true,{Nq m c with age:=1},1,⟨pl.lock.tmod pl.n,1⟩,List.replicate m Je,List.replicate pl.s.toNat N8,List.replicate pl.s.toNat Jm⟩ else⟨tree,false,Fd,0,⟨pl.lock.tmod pl.n,1⟩,List.replicate m Je,List.replicate pl.s.toNat N8,List.replicate pl.s.toNat Jm⟩
def Sr (pl:Plc) (tree:Bool) (c:Ctr):Lck×Int:=bif J9 pl&&Ho c then(CO pl tree c,0) else(Ig,2)
def Aja (ki:IntKind) (r:Lck×Int):Gx:=λe _ F1=>∃p',e=.returned (.tuple #[.agg (Jd r.1 p').toArray,.int ki r.2])/\F1=C7 r.1 p'
def LM (t:Try):Try:= {t with sent:= -1}
theorem Alb {l:List Nat} (h:l.Nodup) (j k:Nat) (hj:j<l.length) (hk:k<l.length) (e:l.getD j j=l.getD k k):j=k:=by
 rw[D1,D1,A8 hj,A8 hk] at e;exact(P7 h).1 e
theorem Nd {X:Fx} {c':Code} {T:TE} {L:LE} {n:Nat} {F:List Fact} {K:KK} (pl:Plc) (tree:Bool) (c:Ctr) (m:Nat) (ss rr:List Value) (a4 a5 a6:Option Addr) (A S R:Nat)
  (tail:∀a4 a5 a6,CJs X c' (opT pl 3) (opX pl tree c m a4 a5 a6 ss rr 3 4 5) 6 [slF Bv 4 (.slice a4 m m) (List.replicate m Je)] (λ_=>[]) K)
  (hw:Wk X T L n F (λ_=>[]) ⟨opT pl A,opX pl tree c m a4 a5 a6 ss rr A S R,6,[slF Bv 4 (.slice a4 m m) (List.replicate m Je)],λ_=>[]⟩:=by exact Ac)
  (hN:X.N.length=0:=by exact I) (hp:(A,S,R)∈ [(3,4,5),(3,5,4),(4,3,5),(4,5,3),(5,3,4),(5,4,3)]:=by decide):CJs X c' T L n F (λ_=>[]) K:=by
 simp only[Ap,Prod.mk.injEq,Bw,Ed] at hp;refine K5 (opT pl 3) (opX pl tree c m a4 a5 a6 ss rr 3 4 5) 6 [slF Bv 4 (.slice a4 m m) (List.replicate m Je)] (BU hw (Anj (λj=>[0,1,2,A,S,R].getD j j) ?_ ?_ (Alb (l:=[0,1,2,A,S,R]) ?_) (λA w h f hf=>h f hf) (λ_ _ _=>I) λi hi=>absurd hi (by rw[hN];exact Nat.not_lt_zero _))) (tail a4 a5 a6);all_goals rcases hp with ⟨rfl,rfl,rfl⟩|⟨rfl,rfl,rfl⟩|⟨rfl,rfl,rfl⟩|⟨rfl,rfl,rfl⟩|⟨rfl,rfl,rfl⟩|⟨rfl,rfl,rfl⟩<;>first|decide|exact tqI
theorem Anb {P:Prop} {α β γ:Type} {G:α->β->γ->Prop} (h1:(∀a b c,G a b c)->P) (h2:∀a b c,G a b c):P:=h1 h2
theorem Ae3 (pl:Plc) (tree:Bool) (c:Ctr):Cm prog 7 [.agg (O8 pl).toArray,.bool tree,.agg (Ke c).toArray] [] [] (Aja .i64 (Sr pl tree c)):=by
 have hP:=LD pl;have hT:=O9 c;refine tqm [.g ((O8 pl).map SV.v),.o (.v (.bool tree)),.g ((Ke c).map SV.v)] func7 ntmps7 λ_ _=>?_;refine tqc I5 (λ_=>hP) ?_;cases hp:J9 pl
 ·rw[show Sr pl tree c=(Ig,2) by unfold Sr;rw[hp];rfl];refine Eh (C7 Ig Ia) (λA w _ f hf=>So f hf) ?_;exact Al (C7 Ig Ia) I2 λ_=>⟨Ia,I,I⟩
 refine tqc I5 (λ_=>hT) ?_;cases hc:Ho c
 ·rw[show Sr pl tree c=(Ig,2) by unfold Sr;rw[hp,hc];rfl];refine Eh (C7 Ig Ia) (λA w _ f hf=>So f hf) ?_;exact Al (C7 Ig Ia) I2 λ_=>⟨Ia,I,I⟩
 rw[show Sr pl tree c=(CO pl tree c,0) by unfold Sr;rw[hp,hc];rfl];have hpf:=Hm hp;have hsi:=(Sx (n:=pl.n) (l:=pl.l) (s:=pl.s)) hpf.1;unfold CO;generalize (H8 pl.n pl.l pl.s).length=m at*;have hk:0<=pl.lock/\pl.lock<=8:=by
  simp only[J9,Fk,Ad,Aq] at hp;have:=In hpf.1;omega
 have hsh:=In hpf.1;have hmd:0<=pl.lock.tmod pl.n/\pl.lock.tmod pl.n<pl.n:=⟨Int.tmod_nonneg _ hk.1,Xc _ tqO⟩;refine B8 (L5 (r:=pl.lock.tmod pl.n) tqO tqO tqO I I I I) ?_;have hq:pl.s=(pl.s.toNat:Int):=by omega
 have hmS:(madeCells ([1,1,1,1,1,1,1,2].map Te).toArray (pl.s.toNat*8)).toList=(List.replicate pl.s.toNat N8).flatMap Bm:=P0 (enc:=Bm) (z:=N8) tqD I _;have hmR:(madeCells ([1,1,1].map Te).toArray (pl.s.toNat*3)).toList=(List.replicate pl.s.toNat (⟨0,0,0⟩:Try)).flatMap Bz:=P0 (enc:=Bz) (z:=⟨0,0,0⟩) tqD I _;have hN:=Abc pl.n pl.l pl.s m tqO tqO;obtain⟨ss,hS⟩:∃ss,(madeCells ([1,1,1,1,1,1,1,2].map Te).toArray (pl.s.toNat*8)).toList=ss:=⟨_,I⟩;obtain⟨rr,hR⟩:∃rr,(madeCells ([1,1,1].map Te).toArray (pl.s.toNat*3)).toList=rr:=⟨_,I⟩;rw[hS] at hmS;rw[hR] at hmR;apply Anb (α:=Option Addr) (β:=Option Addr) (γ:=Option Addr)
 ·intro tail;refine Ao [5,9,13,15,16] (tqs 0 5<| .op 6<|.op 7<|.op 8<| .op 10<|.op 11<|.op 12<| .alt (.op 5<|.alt (.op 9<|.alt (.op 13<|.op 14<|.op 15<|.op 16 .z) (.op 15<|.op 13<|.op 14<|.op 16 .z)) (.alt (.op 13<|.alt (.op 9<|.op 14<|.op 15<|.op 16 .z) (.op 15<|.op 9<|.op 14<|.op 16 .z)) (.op 15<|.alt (.op 9<|.op 13<|.op 14<|.op 16 .z) (.op 13<|.op 9<|.op 14<|.op 16 .z)))) (.alt (.op 9<|.alt (.op 5<|.alt (.op 13<|.op 14<|.op 15<|.op 16 .z) (.op 15<|.op 13<|.op 14<|.op 16 .z)) (.alt (.op 13<|.alt (.op 5<|.op 14<|.op 15<|.op 16 .z) (.op 15<|.op 5<|.op 14<|.op 16 .z)) (.op 15<|.alt (.op 5<|.op 13<|.op 14<|.op 16 .z) (.op 13<|.op 5<|.op 14<|.op 16 .z)))) (.alt (.op 13<|.alt (.op 5<|.alt (.op 9<|.op 14<|.op 15<|.op 16 .z) (.op 15<|.op 9<|.op 14<|.op 16 .z)) (.alt (.op 9<|.alt (.op 5<|.op 14<|.op 15<|.op 16 .z) (.op 15<|.op 5<|.op 14<|.op 16 .z)) (.op 15<|.alt (.op 5<|.op 9<|.op 14<|.op 16 .z) (.op 9<|.op 5<|.op 14<|.op 16 .z)))) (.op 15<|.alt (.op 5<|.alt (.op 9<|.op 13<|.op 14<|.op 16 .z) (.op 13<|.op 9<|.op 14<|.op 16 .z)) (.alt (.op 9<|.alt (.op 5<|.op 13<|.op 14<|.op 16 .z) (.op 13<|.op 5<|.op 14<|.op 16 .z)) (.op 13<|.alt (.op 5<|.op 9<|.op 14<|.op 16 .z) (.op 9<|.op 5<|.op 14<|.op 16 .z))))))) [0] [] [] [] λ_=>?_;refine⟨_,Ee (cs:=[.v (.int .i64 (pl.lock.tmod pl.n)),.v (.int .i64 1)]),?_⟩;refine⟨?_,?_⟩
  ·refine Aj [] [] I7 (λ_=>hN) ?_;rintro e cs F1 _ ⟨a4,rfl,rfl⟩;refine tqQ ?_;refine⟨?_,?_⟩
   ·refine Ca (m:=pl.s.toNat) (hzz:=hq) ?_;intro a5;rw[hS];refine tqQ ?_;refine⟨?_,?_⟩
    ·refine Ca (m:=pl.s.toNat) (hzz:=hq) ?_;intro a6;rw[hR];refine tqQ<|⟨_,Ee (cs:=opC pl tree m a4 a5 a6),?_⟩;exact tqQ<|tqQ<|Nd pl tree c m ss rr a4 a5 a6 5 3 4 tail
    ·refine tqQ<|Ca (m:=pl.s.toNat) (hzz:=hq) ?_;intro a6;rw[hR];refine tqQ<|⟨_,Ee (cs:=opC pl tree m a4 a5 a6),?_⟩;exact tqQ<|Nd pl tree c m ss rr a4 a5 a6 4 3 5 tail
   ·refine⟨?_,?_⟩
    ·refine Ca (m:=pl.s.toNat) (hzz:=hq) ?_;intro a6;rw[hR];refine tqQ ?_;refine⟨?_,?_⟩
     ·refine Ca (m:=pl.s.toNat) (hzz:=hq) ?_;intro a5;rw[hS];refine tqQ<|⟨_,Ee (cs:=opC pl tree m a4 a5 a6),?_⟩;exact tqQ<|tqQ<|Nd pl tree c m ss rr a4 a5 a6 5 4 3 tail
     ·refine tqQ<|Ca (m:=pl.s.toNat) (hzz:=hq) ?_;intro a5;rw[hS];refine tqQ<|⟨_,Ee (cs:=opC pl tree m a4 a5 a6),?_⟩;exact tqQ<|Nd pl tree c m ss rr a4 a5 a6 4 5 3 tail
    ·refine tqQ ?_;refine⟨?_,?_⟩
     ·refine Ca (m:=pl.s.toNat) (hzz:=hq) ?_;intro a5;rw[hS];refine tqQ<|Ca (m:=pl.s.toNat) (hzz:=hq) ?_;intro a6;rw[hR];refine tqQ<|⟨_,Ee (cs:=opC pl tree m a4 a5 a6),?_⟩;exact tqQ<|Nd pl tree c m ss rr a4 a5 a6 3 4 5 tail
     ·refine Ca (m:=pl.s.toNat) (hzz:=hq) ?_;intro a6;rw[hR];refine tqQ<|Ca (m:=pl.s.toNat) (hzz:=hq) ?_;intro a5;rw[hS];refine tqQ<|⟨_,Ee (cs:=opC pl tree m a4 a5 a6),?_⟩;exact tqQ<|Nd pl tree c m ss rr a4 a5 a6 3 5 4 tail
  ·refine⟨?_,?_⟩
   ·refine Ca (m:=pl.s.toNat) (hzz:=hq) ?_;intro a5;rw[hS];refine tqQ ?_;refine⟨?_,?_⟩
    ·refine Aj [] [] I7 (λ_=>hN) ?_;rintro e cs F1 _ ⟨a4,rfl,rfl⟩;refine tqQ ?_;refine⟨?_,?_⟩
     ·refine Ca (m:=pl.s.toNat) (hzz:=hq) ?_;intro a6;rw[hR];refine tqQ<|⟨_,Ee (cs:=opC pl tree m a4 a5 a6),?_⟩;exact tqQ<|tqQ<|Nd pl tree c m ss rr a4 a5 a6 5 3 4 tail
     ·refine tqQ<|Ca (m:=pl.s.toNat) (hzz:=hq) ?_;intro a6;rw[hR];refine tqQ<|⟨_,Ee (cs:=opC pl tree m a4 a5 a6),?_⟩;exact tqQ<|Nd pl tree c m ss rr a4 a5 a6 4 3 5 tail
    ·refine⟨?_,?_⟩
     ·refine Ca (m:=pl.s.toNat) (hzz:=hq) ?_;intro a6;rw[hR];refine tqQ ?_;refine⟨?_,?_⟩
      ·refine Aj [] [] I7 (λ_=>hN) ?_;rintro e cs F1 _ ⟨a4,rfl,rfl⟩;refine tqQ<|⟨_,Ee (cs:=opC pl tree m a4 a5 a6),?_⟩;exact tqQ<|tqQ<|Nd pl tree c m ss rr a4 a5 a6 5 3 4 tail
      ·refine tqQ<|Aj [] [] I7 (λ_=>hN) ?_;rintro e cs F1 _ ⟨a4,rfl,rfl⟩;refine tqQ<|⟨_,Ee (cs:=opC pl tree m a4 a5 a6),?_⟩;exact tqQ<|Nd pl tree c m ss rr a4 a5 a6 5 3 4 tail
     ·refine tqQ ?_;refine⟨?_,?_⟩
      ·refine Aj [] [] I7 (λ_=>hN) ?_;rintro e cs F1 _ ⟨a4,rfl,rfl⟩;refine tqQ<|Ca (m:=pl.s.toNat) (hzz:=hq) ?_;intro a6;rw[hR];refine tqQ<|⟨_,Ee (cs:=opC pl tree m a4 a5 a6),?_⟩;exact tqQ<|Nd pl tree c m ss rr a4 a5 a6 4 3 5 tail
      ·refine Ca (m:=pl.s.toNat) (hzz:=hq) ?_;intro a6;rw[hR];refine tqQ<|Aj [] [] I7 (λ_=>hN) ?_;rintro e cs F1 _ ⟨a4,rfl,rfl⟩;refine tqQ<|⟨_,Ee (cs:=opC pl tree m a4 a5 a6),?_⟩;exact tqQ<|Nd pl tree c m ss rr a4 a5 a6 4 3 5 tail
   ·refine⟨?_,?_⟩
    ·refine Ca (m:=pl.s.toNat) (hzz:=hq) ?_;intro a6;rw[hR];refine tqQ ?_;refine⟨?_,?_⟩
     ·refine Aj [] [] I7 (λ_=>hN) ?_;rintro e cs F1 _ ⟨a4,rfl,rfl⟩;refine tqQ ?_;refine⟨?_,?_⟩
      ·refine Ca (m:=pl.s.toNat) (hzz:=hq) ?_;intro a5;rw[hS];refine tqQ<|⟨_,Ee (cs:=opC pl tree m a4 a5 a6),?_⟩;exact tqQ<|tqQ<|Nd pl tree c m ss rr a4 a5 a6 5 4 3 tail
      ·refine tqQ<|Ca (m:=pl.s.toNat) (hzz:=hq) ?_;intro a5;rw[hS];refine tqQ<|⟨_,Ee (cs:=opC pl tree m a4 a5 a6),?_⟩;exact tqQ<|Nd pl tree c m ss rr a4 a5 a6 4 5 3 tail
     ·refine⟨?_,?_⟩
      ·refine Ca (m:=pl.s.toNat) (hzz:=hq) ?_;intro a5;rw[hS];refine tqQ ?_;refine⟨?_,?_⟩
       ·refine Aj [] [] I7 (λ_=>hN) ?_;rintro e cs F1 _ ⟨a4,rfl,rfl⟩;refine tqQ<|⟨_,Ee (cs:=opC pl tree m a4 a5 a6),?_⟩;exact tqQ<|tqQ<|Nd pl tree c m ss rr a4 a5 a6 5 4 3 tail
       ·refine tqQ<|Aj [] [] I7 (λ_=>hN) ?_;rintro e cs F1 _ ⟨a4,rfl,rfl⟩;refine tqQ<|⟨_,Ee (cs:=opC pl tree m a4 a5 a6),?_⟩;exact tqQ<|Nd pl tree c m ss rr a4 a5 a6 5 4 3 tail
      ·refine tqQ ?_;refine⟨?_,?_⟩
       ·refine Aj [] [] I7 (λ_=>hN) ?_;rintro e cs F1 _ ⟨a4,rfl,rfl⟩;refine tqQ<|Ca (m:=pl.s.toNat) (hzz:=hq) ?_;intro a5;rw[hS];refine tqQ<|⟨_,Ee (cs:=opC pl tree m a4 a5 a6),?_⟩;exact tqQ<|Nd pl tree c m ss rr a4 a5 a6 4 5 3 tail
       ·refine Ca (m:=pl.s.toNat) (hzz:=hq) ?_;intro a5;rw[hS];refine tqQ<|Aj [] [] I7 (λ_=>hN) ?_;rintro e cs F1 _ ⟨a4,rfl,rfl⟩;refine tqQ<|⟨_,Ee (cs:=opC pl tree m a4 a5 a6),?_⟩;exact tqQ<|Nd pl tree c m ss rr a4 a5 a6 4 5 3 tail
    ·refine tqQ ?_;refine⟨?_,?_⟩
     ·refine Aj [] [] I7 (λ_=>hN) ?_;rintro e cs F1 _ ⟨a4,rfl,rfl⟩;refine tqQ ?_;refine⟨?_,?_⟩
      ·refine Ca (m:=pl.s.toNat) (hzz:=hq) ?_;intro a5;rw[hS];refine tqQ<|Ca (m:=pl.s.toNat) (hzz:=hq) ?_;intro a6;rw[hR];refine tqQ<|⟨_,Ee (cs:=opC pl tree m a4 a5 a6),?_⟩;exact tqQ<|Nd pl tree c m ss rr a4 a5 a6 3 4 5 tail
      ·refine Ca (m:=pl.s.toNat) (hzz:=hq) ?_;intro a6;rw[hR];refine tqQ<|Ca (m:=pl.s.toNat) (hzz:=hq) ?_;intro a5;rw[hS];refine tqQ<|⟨_,Ee (cs:=opC pl tree m a4 a5 a6),?_⟩;exact tqQ<|Nd pl tree c m ss rr a4 a5 a6 3 5 4 tail
     ·refine⟨?_,?_⟩
      ·refine Ca (m:=pl.s.toNat) (hzz:=hq) ?_;intro a5;rw[hS];refine tqQ ?_;refine⟨?_,?_⟩
       ·refine Aj [] [] I7 (λ_=>hN) ?_;rintro e cs F1 _ ⟨a4,rfl,rfl⟩;refine tqQ<|Ca (m:=pl.s.toNat) (hzz:=hq) ?_;intro a6;rw[hR];refine tqQ<|⟨_,Ee (cs:=opC pl tree m a4 a5 a6),?_⟩;exact tqQ<|Nd pl tree c m ss rr a4 a5 a6 3 4 5 tail
       ·refine Ca (m:=pl.s.toNat) (hzz:=hq) ?_;intro a6;rw[hR];refine tqQ<|Aj [] [] I7 (λ_=>hN) ?_;rintro e cs F1 _ ⟨a4,rfl,rfl⟩;refine tqQ<|⟨_,Ee (cs:=opC pl tree m a4 a5 a6),?_⟩;exact tqQ<|Nd pl tree c m ss rr a4 a5 a6 3 4 5 tail
      ·refine Ca (m:=pl.s.toNat) (hzz:=hq) ?_;intro a6;rw[hR];refine tqQ ?_;refine⟨?_,?_⟩
       ·refine Aj [] [] I7 (λ_=>hN) ?_;rintro e cs F1 _ ⟨a4,rfl,rfl⟩;refine tqQ<|Ca (m:=pl.s.toNat) (hzz:=hq) ?_;intro a5;rw[hS];refine tqQ<|⟨_,Ee (cs:=opC pl tree m a4 a5 a6),?_⟩;exact tqQ<|Nd pl tree c m ss rr a4 a5 a6 3 5 4 tail
       ·refine Ca (m:=pl.s.toNat) (hzz:=hq) ?_;intro a5;rw[hS];refine tqQ<|Aj [] [] I7 (λ_=>hN) ?_;rintro e cs F1 _ ⟨a4,rfl,rfl⟩;refine tqQ<|⟨_,Ee (cs:=opC pl tree m a4 a5 a6),?_⟩;exact tqQ<|Nd pl tree c m ss rr a4 a5 a6 3 5 4 tail
 ·intro a4 a5 a6;rw[hmS,hmR];clear hmS hmR hS hR;refine Wy 5 I tqO ?_;rintro g rfl;have hml:(List.replicate pl.s.toNat (⟨0,0,0⟩:Try)).length=pl.s.toNat:=Cj;refine Br (γ:=Nat) (λk=>k<=pl.s.toNat) (λk=>[(10,.o (.v (.int .i64 k)))]) (λk=>[(5,.own (.slice (some ⟨g,0,none⟩) pl.s.toNat pl.s.toNat) 104 3 pl.s.toNat ((X2 LM k (List.replicate pl.s.toNat ⟨0,0,0⟩)).flatMap Bz))]) (λ_=>[]) (λk=>pl.s.toNat- k) 0 (Ax _) ?_ ?_
  ·rw[EA];exact Ac
  rintro k hk;refine Ai (λh1=>?_) λh1=>?_
  ·obtain⟨t,ht⟩:=A9 (xs:=List.replicate pl.s.toNat (⟨0,0,0⟩:Try)) (k:=k);have hmt:=NC (f:=LM) ht;have hms:=DZ (f:=LM) ht;refine Au (Bb (m:=pl.s.toNat) (i:=k)) ?_;refine Zl (enc:=Bz) (sz:=3) (i:=k) (q:=0) (ys:=[.int .i64 (-1)]) 5 (LM t) I hmt Fh I I I I tqO I I tqO I (by simp[Value.oneCell']) tqS I ?_;rw[<-hms];refine Af (z:=(k+1:Nat)) ?_;exact⟨k+1,tqO,tqP,Ac⟩
  obtain rfl:k=(List.replicate pl.s.toNat (⟨0,0,0⟩:Try)).length:=by omega
  rw[IP,List.map_replicate,show LM ⟨0,0,0⟩=Jm from I];refine A7 (λh2=>?_) λh2=>?_;rotate_left
  ·rw[h2,By];refine Dj (D8 (j:=4) (v:=.slice a5 pl.s.toNat pl.s.toNat) (m:=pl.s.toNat) (enc:=Bm) (xs:=List.replicate pl.s.toNat N8) (.inl I) Dy Cj.symm I) ?_;refine Dj (D8 (j:=5) (v:=.slice (some ⟨g,0,none⟩) pl.s.toNat pl.s.toNat) (m:=pl.s.toNat) (enc:=Bz) (xs:=List.replicate pl.s.toNat Jm) (.inl I) Fh Cj.symm I) ?_;refine Eh (C7 (⟨tree,false,Fd,0,⟨pl.lock.tmod pl.n,1⟩,List.replicate m Je,List.replicate pl.s.toNat N8,List.replicate pl.s.toNat Jm⟩:Lck) (⟨Dx,a4,m,a5,pl.s.toNat,some ⟨g,0,none⟩,pl.s.toNat⟩:LckS)) (λA w h f hf=>by
    simp only[C7,Cj,Ap,Bw,Ed] at hf;rcases hf with rfl|rfl|rfl|rfl|rfl|rfl<;>first|exact Kw _ _ _ _|exact h _ tqS) ?_
   exact Al (C7 (⟨tree,false,Fd,0,⟨pl.lock.tmod pl.n,1⟩,List.replicate m Je,List.replicate pl.s.toNat N8,List.replicate pl.s.toNat Jm⟩:Lck) (⟨Dx,a4,m,a5,pl.s.toNat,some ⟨g,0,none⟩,pl.s.toNat⟩:LckS)) I2 λ_=>⟨(⟨Dx,a4,m,a5,pl.s.toNat,some ⟨g,0,none⟩,pl.s.toNat⟩:LckS),by simp only[Jd,Cj];rfl,I⟩
  rw[h2,Ci];refine Aj [] [] I7 (λ_=>Abd pl.n pl.l pl.s c m tqO tqO hpf.1 hc) ?_;rintro e cs F1 _ ⟨a1,rfl,rfl⟩;refine Ao [2,4,6] (tqs 0 6<| .op 6 .z) [6] [(2,3),(4,3),(6,3)] [] [] λ_=>?_;refine tqQ<|tqQ<|tqQ<|Dj (D8 (j:=4) (v:=.slice a5 pl.s.toNat pl.s.toNat) (m:=pl.s.toNat) (enc:=Bm) (xs:=List.replicate pl.s.toNat N8) (.inl I) Dy Cj.symm I) ?_;refine Dj (D8 (j:=5) (v:=.slice (some ⟨g,0,none⟩) pl.s.toNat pl.s.toNat) (m:=pl.s.toNat) (enc:=Bz) (xs:=List.replicate pl.s.toNat Jm) (.inl I) Fh Cj.symm I) ?_;refine Eh (C7 (⟨tree,true,{Nq m c with age:=1},1,⟨pl.lock.tmod pl.n,1⟩,List.replicate m Je,List.replicate pl.s.toNat N8,List.replicate pl.s.toNat Jm⟩:Lck) (⟨⟨a1,m,none,0,none,0⟩,a4,m,a5,pl.s.toNat,some ⟨g,0,none⟩,pl.s.toNat⟩:LckS)) (λA w h f hf=>by
   simp only[C7,Cj,Ap,Bw,Ed] at hf;rcases hf with rfl|rfl|rfl|rfl|rfl|rfl<;>first|exact Kw _ _ _ _|exact h _ tqS) ?_
  exact Al (C7 (⟨tree,true,{Nq m c with age:=1},1,⟨pl.lock.tmod pl.n,1⟩,List.replicate m Je,List.replicate pl.s.toNat N8,List.replicate pl.s.toNat Jm⟩:Lck) (⟨⟨a1,m,none,0,none,0⟩,a4,m,a5,pl.s.toNat,some ⟨g,0,none⟩,pl.s.toNat⟩:LckS)) I2 λ_=>⟨(⟨⟨a1,m,none,0,none,0⟩,a4,m,a5,pl.s.toNat,some ⟨g,0,none⟩,pl.s.toNat⟩:LckS),by simp only[Jd,Cj];rfl,I⟩
theorem VY:((List.range 5).all λn=>Ck.ev prog false (λ_=>false) 0 Ck.kn0 10000 (.fn 69 [.int .u64 1,.int .u64 n]) Ck.noF ⟨.lf,0⟩ λe _ _=>Ck.isV (.tuple #[.int .u64 0,.int .u64 n]) e)=true:=tqK
theorem Aco (n:Nat) (h:n<=4):Cm prog 69 [.int .u64 1,.int .u64 n] [] [] (Bd (.tuple #[.int .u64 0,.int .u64 n])):=
 Ck.cm_of_evA (G0:=λ_=>⟨0,0,0,0,0⟩) (Ck.ev_sound tqK Ck.kn0S (λg h=>by cases h) _) (λG _=>by rw[Bj,Ck.den_plain G _ I,Bj,Ck.den_plain G _ I];rfl) I (A6.1 VY n (Hc.2 tqO))
section
variable {X:Fx} {o:Oper} {T:TE} {L:LE} {F:List Fact}
theorem Ach {t:TypeId} {x y:Operand} {g off m cap i sz e:Nat} {ki:IntKind} {z:Int} (hz:z=(i:Int)) (hi:i<=m) (hn:cap≠i) (ho:o.op=.slice t x (some y) none none) (he:Ah X.tab.el t=some (e,sz)) (hx:evS T x=some (.o (.v (.slice (some ⟨g,off,none⟩) m cap)))) (hy:evS T y=some (.o (.v (.int ki z)))):
  Yd X o T L F (.o (.v (.slice (some ⟨g,off+i*sz,none⟩) (m- i) (cap- i)))):=by
 have:=Ys (X:=X) (L:=L) (F:=F) hz hi ho he hx hy;rw[Ar hn,Gf,H5] at this;exact this
end
def X6 (n:Nat) (hs:List Value):List Value:=(List.replicate n Jm).flatMap Bz++hs.drop (n*3)
theorem Su (n:Nat):((List.replicate n Jm).flatMap Bz).length=n*3:=by rw[F8 Fh,Cj]
variable {hs:List Value}
theorem US {n m:Nat} (hl:hs.length=m*3) (h:n<=m):(X6 n hs).length=m*3:=by
 rw[X6,Az,Su,Bn,hl];omega
theorem ER {n k:Nat} (h:k<=n):(X6 n hs).take (k*3)=(List.replicate k Jm).flatMap Bz:=by
 have e:List.replicate n Jm=List.replicate k Jm++List.replicate (n- k) Jm:=by rw[List.replicate_append_replicate];congr 1;omega
 rw[X6,e,Em,Cp,C0 (by rw[Su];exact Ak _),Dm (by rw[Su];exact Ak _)]
theorem Ae9 {n k:Nat}:(X6 n hs).take (n*3)++(List.replicate k Jm).flatMap Bz++(X6 n hs).drop (n*3+((List.replicate k Jm).flatMap Bz).length)=X6 (n+k) hs:=by
 rw[ER (Ak n),<-Em,List.replicate_append_replicate,Su,X6]
 congr 1
 rw[T9,Su,Hy (by rw[Su];omega),Cs,Sb]
 congr 1
 omega
theorem Ah1 (s:Int) (h1:1<=s) (h4:s<=4):Cx prog 29 [.o (.s 0 0 1 1),.o (.v (.int .i64 s))] [.c ((Bz Jm).map SV.v) 104] [] (λr Ls F1=>∃a,r=.inl (.o (.v (.slice a s.toNat s.toNat)))/\Ls=[.c ((Bz Jm).map SV.v) 104]/\F1=[slF Bz 3 (.slice a s.toNat s.toNat) (List.replicate s.toNat Jm)]):=by
 obtain⟨m,hm⟩:∃m:Nat,s=m:=⟨s.toNat,tqO⟩;subst hm;rw[Ej];have h1n:1<=m:=by omega
 have hM:=Aco m tqO;refine tqx func29 ntmps29 ?_;intro ρ w0 A0;refine B8 (S2 (kj:=.u64) (r:=1) tqK tqK tqD I I) ?_;refine B8 (S2 (kj:=.u64) (r:=(m:Int)) tqK tqK (by rcases(show m=1\/m=2\/m=3\/m=4 by omega) with rfl|rfl|rfl|rfl<;>decide) I I) ?_;refine tqc I5 (λ_=>hM) ?_;refine Ai (λg1=>?_) λg1=>?_
 ·omega
 refine B8 (S2 (kj:=.i64) (r:=(m:Int)) tqK tqK (by rcases(show m=1\/m=2\/m=3\/m=4 by omega) with rfl|rfl|rfl|rfl<;>decide) I I) ?_;refine Ca (m:=m) ?_;intro a1;refine BK 1 I tqO ?_;rintro g hs rfl hl- - -;refine Oo 1 (sz:=3) (off:=0) (dl:=m) (dc:=m) (sl:=1) (m:=1) (hs:=hs) (news:=Bz Jm) I I I I I I I (Ao2 I I) (C1 h1n) I (by rw[hl];show 0+3<=m*3;omega) (λv hv=>Jf (xs:=[Jm]) v (by simpa using hv)) ?_;rw[show hs.take 0++Bz Jm++hs.drop (0+(Bz Jm).length)=X6 1 hs by simp[X6,Bz]];refine Br (γ:=Nat) (λn=>1<=n/\n<=m) (λn=>[(8,.o (.v (.int .i64 n)))]) (λn=>[(1,.ob g (Qb (X6 n hs) 104))]) (λ_=>[]) (λn=>m- n) 1 ⟨Ak _,h1n⟩ Ac ?_;rintro n ⟨hn1,hnm⟩;refine Ai (λg2=>?_) λg2=>?_;rotate_left
 ·obtain rfl:n=m:=by omega
  refine DR (Ow (j:=1) (m:=n) (cap:=n) (sz:=3) (cells:=(List.replicate n Jm).flatMap Bz) I (Ak _) tqM (US hl (Ak _)) (ER (Ak _))) ?_;refine DR (D8 (j:=1) (v:=.slice (some ⟨g,0,none⟩) n n) (m:=n) (enc:=Bz) (xs:=List.replicate n Jm) (.inr ⟨I,I⟩) Fh Cj.symm I) ?_;exact Dg [0] (.o (.v (.slice (some ⟨g,0,none⟩) n n))) [.c ((Bz Jm).map SV.v) 104] [slF Bz 3 (.slice (some ⟨g,0,none⟩) n n) (List.replicate n Jm)] ⟨I,trivial⟩ ⟨_,I,I,I⟩
 obtain⟨k,hk⟩:∃k,k=min n (m- n):=⟨_,I⟩;refine Ao [7] (tqs 0 9<| .op 9 .z) [] [] [] [] λ_=>?_;refine⟨_,Ach (i:=n) I hnm tqO I I I I,?_⟩;refine⟨_,Yq (i:=n) I hnm I I I I,?_⟩;refine Oo 1 (sz:=3) (off:=0+n*3) (dl:=m- n) (dc:=m- n) (sl:=n) (m:=k) (hs:=X6 n hs) (news:=(List.replicate k Jm).flatMap Bz) I I I I I I I (CZ (q:=1) I I (by rw[Su,List.drop_zero];exact ER tqO)) hk.symm (Su k) (by rw[Su,US hl hnm];omega) (λv hv=>Jf v hv) ?_;rw[Bl,Ae9];refine tqQ<|⟨_,Cb (z:=((n+k:Nat):Int)) (ho:=I) (hx:=I) (hy:=I) (hr:=I) (hz:=by rw[Ey]<;>omega),?_⟩;exact⟨n+k,⟨tqO,tqO⟩,tqP,Ac⟩
theorem YG (b:Nat):Cm prog 22 [.pointer (some ⟨b,0,none⟩)] [(b,Jd Ig Ia,40)] [] (λe cs F1=>e=.returned (.tuple #[])/\cs=[Jd Ig Ia]/\F1=[]):=by
 refine tqm [.o (.p 0 0)] func22 ntmps22 (hargs:=λρ h=>by simp[TV.den,SV.den,h 0 b I]) λ_ _=>?_;exact Al [] I2 λ_=>⟨I,I,I⟩
theorem Aaq (pl:Plc) (tree:Bool) (c:Ctr):Cm prog 6 [.agg (O8 pl).toArray,.bool tree,.agg (Ke c).toArray] [] [] (Aja .i64 (Sr pl tree c)):=by
 have hO:Sr pl tree c=bif J9 pl&&Ho c then(CO pl tree c,0) else(Ig,2):=I
 generalize Sr pl tree c=V at hO⊢;refine tqn [.g ((O8 pl).map SV.v),.o (.v (.bool tree)),.g ((Ke c).map SV.v)] func6 ntmps6 I I (λ_ _=>I) λ_ _=>?_;refine Sp I I I I I I I I ?_;refine Aj [] [] I7 (λ_=>HB pl) ?_;rintro e cs F1 _ ⟨⟨hb,rfl⟩|⟨hb,rfl⟩,rfl⟩;rotate_left
 ·rw[hb,Hb,By] at hO;subst hO;refine Rb [2] Z3 (Df func21 tqK I) (Df func22 tqK I) I tqS (λρ=>YG _) I (Fg ?_);refine Eh (C7 Ig Ia) (λA w _ f hf=>So f hf) ?_;exact Al (C7 Ig Ia) I2 λ_=>⟨Ia,I,I⟩
 refine tqc I5 (λ_=>Vd c) ?_;cases hb1:Ho c
 ·have hE:S9 c=2:=by simp[S9,hb1]
  rw[hE];refine Aj [] [] I7 (λ_=>G9 false) ?_;rintro e cs F1 _ ⟨⟨hc,rfl⟩|⟨hc,rfl⟩,rfl⟩
  ·cases hc
  rw[hb,hb1,L6,By] at hO;subst hO;refine Rb [2] Z3 (Df func21 tqK I) (Df func22 tqK I) I tqS (λρ=>YG _) I (Fg ?_);refine Eh (C7 Ig Ia) (λA w _ f hf=>So f hf) ?_;exact Al (C7 Ig Ia) I2 λ_=>⟨Ia,I,I⟩
 have hE:S9 c=0:=by simp[S9,hb1]
 rw[hE];refine Aj [] [] I7 (λ_=>G9 true) ?_;rintro e cs F1 _ ⟨⟨hc,rfl⟩|⟨hc,rfl⟩,rfl⟩;rotate_left
 ·cases hc
 rw[hb,hb1,Tu,Ci] at hO;have hpf:=Hm hb;have hsh:=In hpf.1;have hk:0<=pl.lock/\pl.lock<=8:=by
  simp only[J9,Fk,Ad,Aq] at hb;omega
 have hmd:0<=pl.lock.tmod pl.n/\pl.lock.tmod pl.n<pl.n:=⟨Int.tmod_nonneg _ hk.1,Xc _ tqO⟩;refine B8 (L5 (r:=pl.lock.tmod pl.n) tqO tqO tqO I I I I) ?_;have hSt:=Afm pl.n pl.l pl.s;have hTk:=Aih pl.n pl.l pl.s c;unfold CO at hO;unfold NU at hTk;generalize (H8 pl.n pl.l pl.s).length=m at hSt hTk hO;refine Aj [] [] I7 (λ_=>hSt) ?_;rintro e cs F1 _ (⟨_,a4,rfl,rfl⟩|⟨hc,_⟩);rotate_left
 ·rw[hpf.1] at hc;cases hc
 refine En func27 ntmps27 ?_;intro w1 A1 M1 N1 hN1;refine Aj [] [] I7 (λ_=>Ob true 0) ?_;rintro e cs F1 _ ⟨⟨_,rfl⟩|⟨hc,rfl⟩,rfl⟩;rotate_left
 ·cases hc
 refine⟨I,?_⟩;refine Aj [] [] I7 (λ_=>Afi pl.n pl.l pl.s) ?_;rintro e cs F1 _ (⟨_,a5,rfl,rfl⟩|⟨hc,_⟩);rotate_left
 ·rw[hpf.1] at hc;cases hc
 refine En func27 ntmps27 ?_;intro w2 A2 M2 N2 hN2;refine Aj [] [] I7 (λ_=>Ob true 0) ?_;rintro e cs F1 _ ⟨⟨_,rfl⟩|⟨hc,rfl⟩,rfl⟩;rotate_left
 ·cases hc
 refine⟨I,?_⟩;refine Ni [(45,.o (.s 4 0 1 1)),(48,.o (.v (.int .i64 pl.s))),(3,.o (.p 0 0)),(5,.o (.p 1 0)),(6,.o (.p 2 0)),(7,.o (.p 3 0)),(8,.o (.v (.int .i64 (pl.lock.tmod pl.n))))] [(2,.c [.v (.bool tree),.v (.bool false),.v (.int .i64 0),.v (.slice none 0 0),.v (.slice none 0 0),.v (.slice none 0 0),.v (.int .i64 0),.v (.int .i64 0),.v (.int .u64 0),.v (.int .i64 0),.v (.int .i64 (pl.lock.tmod pl.n)),.v (.int .i64 1),.v (.slice a4 m m),.v (.slice a5 pl.s.toNat pl.s.toNat),.v (.slice none 0 0)] 40),(4,.c ((Bz Jm).map SV.v) 104),(0,.c ((O8 pl).map SV.v) 25),(1,.c ((Ke c).map SV.v) 31),(3,.c [.v (.int .i64 0)] 45)] 5 [slF Bm 8 (.slice a5 pl.s.toNat pl.s.toNat) (List.replicate pl.s.toNat N8),slF Bv 4 (.slice a4 m m) (List.replicate m Je)] (Ac (hD:=Tx I I)) ?_;refine Cf (mu:=[.c ((Bz Jm).map SV.v) 104]) [4] I7 ⟨I,trivial⟩ (Ah1 pl.s hsh.2.2.1 hsh.2.2.2) ?_;rintro r Ls F1 ⟨a6,rfl,rfl,rfl⟩;refine A7 (λh2=>?_) λh2=>?_;rotate_left
 ·rw[h2,By] at hO;subst hO;refine Lm Wx (Df func21 tqK I) (Fg ?_);refine Eh (C7 (⟨tree,false,Fd,0,⟨pl.lock.tmod pl.n,1⟩,List.replicate m Je,List.replicate pl.s.toNat N8,List.replicate pl.s.toNat Jm⟩:Lck) (⟨Dx,a4,m,a5,pl.s.toNat,a6,pl.s.toNat⟩:LckS)) (λA w h f hf=>by
   simp only[C7,Cj,Ap,Bw,Ed] at hf;rcases hf with rfl|rfl|rfl|rfl|rfl|rfl<;>first|exact Kw _ _ _ _|exact h _ tqS) ?_
  exact Al (C7 (⟨tree,false,Fd,0,⟨pl.lock.tmod pl.n,1⟩,List.replicate m Je,List.replicate pl.s.toNat N8,List.replicate pl.s.toNat Jm⟩:Lck) (⟨Dx,a4,m,a5,pl.s.toNat,a6,pl.s.toNat⟩:LckS)) I2 λ_=>⟨(⟨Dx,a4,m,a5,pl.s.toNat,a6,pl.s.toNat⟩:LckS),by simp only[Jd,Cj];rfl,I⟩
 rw[h2,Ci] at hO;subst hO;refine Aj [] [] I7 (λ_=>hTk) ?_;rintro e cs F1 _ (⟨_,a1,rfl,rfl⟩|⟨hc,_⟩);rotate_left
 ·rw[hpf.1,hb1] at hc;cases hc
 refine Ni [(63,.o (.v (.int .i64 0))),(6,.o (.p 2 0)),(7,.o (.p 3 0))] [(2,.c [.v (.bool tree),.v (.bool false),.v (.int .i64 0),.v (.slice a1 (Nq m c).seq.length m),.v (.slice none 0 0),.v (.slice none 0 0),.v (.int .i64 c.value),.v (.int .i64 c.floor),.v (.int .u64 c.version),.v (.int .i64 0),.v (.int .i64 (pl.lock.tmod pl.n)),.v (.int .i64 1),.v (.slice a4 m m),.v (.slice a5 pl.s.toNat pl.s.toNat),.v (.slice a6 pl.s.toNat pl.s.toNat)] 40),(3,.c [.v (.int .i64 0)] 45)] 5 [slF Bt 1 (.slice a1 (Nq m c).seq.length m) (Nq m c).seq,slF Bz 3 (.slice a6 pl.s.toNat pl.s.toNat) (List.replicate pl.s.toNat Jm),slF Bm 8 (.slice a5 pl.s.toNat pl.s.toNat) (List.replicate pl.s.toNat N8),slF Bv 4 (.slice a4 m m) (List.replicate m Je)] (Ac (hD:=Tx I I)) ?_;refine En func27 ntmps27 ?_;intro w3 A3 M3 N3 hN3;refine Aj [] [] I7 (λ_=>Ob true 0) ?_;rintro e cs F1 _ ⟨⟨_,rfl⟩|⟨hc,rfl⟩,rfl⟩;rotate_left
 ·cases hc
 refine⟨I,?_⟩;refine Lm Wx (Df func21 tqK I) (Fg ?_);refine Eh (C7 (⟨tree,true,{Nq m c with age:=1},1,⟨pl.lock.tmod pl.n,1⟩,List.replicate m Je,List.replicate pl.s.toNat N8,List.replicate pl.s.toNat Jm⟩:Lck) (⟨⟨a1,m,none,0,none,0⟩,a4,m,a5,pl.s.toNat,a6,pl.s.toNat⟩:LckS)) (λA w h f hf=>by
  simp only[C7,Cj,Ap,Bw,Ed] at hf;rcases hf with rfl|rfl|rfl|rfl|rfl|rfl<;>first|exact Kw _ _ _ _|exact h _ tqS) ?_
 exact Al (C7 (⟨tree,true,{Nq m c with age:=1},1,⟨pl.lock.tmod pl.n,1⟩,List.replicate m Je,List.replicate pl.s.toNat N8,List.replicate pl.s.toNat Jm⟩:Lck) (⟨⟨a1,m,none,0,none,0⟩,a4,m,a5,pl.s.toNat,a6,pl.s.toNat⟩:LckS)) I2 λ_=>⟨(⟨⟨a1,m,none,0,none,0⟩,a4,m,a5,pl.s.toNat,a6,pl.s.toNat⟩:LckS),by simp only[Jd,Cj];rfl,I⟩
theorem Ae4:Cm prog 106 [.slice none 0 0,.slice none 0 0] [] [] (Bd (.bool true)):=by
 refine tqm [.o (.v (.slice none 0 0)),.o (.v (.slice none 0 0))] func106 ntmps106 λ_ _=>?_;refine Hj 1 ?_;exact tqE
theorem Aex:Cm prog 107 [.slice none 0 0,.slice none 0 0] [] [] (Bd (.bool true)):=by
 refine tqm [.o (.v (.slice none 0 0)),.o (.v (.slice none 0 0))] func107 ntmps107 λ_ _=>?_;refine Hj 1 ?_;exact tqE
theorem Ac9:Mf prog 9 70=some [4,4]:=tqK
theorem Ako:Ui prog 70=true:=tqK
theorem Ac7:Mf prog 9 72=some [4,4]:=tqK
theorem Akn:Ui prog 72=true:=tqK
theorem UJ (y:Ltr) (s r:Sls) (hy:y.tok.small):Cm prog 52 [.agg (X3 y s).toArray,.agg (X3 y r).toArray] [] (Bs y.tok s++Bs y.tok r) (Bd (.bool true)):=by
 have hT:=Zp y.tok y.tok s r hy hy;rw[D4 (rfl:y.tok=y.tok)] at hT;refine tqm [.g ((X3 y s).map SV.v),.g ((X3 y r).map SV.v)] func52 ntmps52 λ_ _=>?_;conv=>whnf
 refine P9 tqS ?_;refine B8 (Zy (xs:=[.int .i64 0,.int .i64 0]) (ys:=[.int .i64 0,.int .i64 0]) (r:=true) (ks:=_) Ac9 Ako I I I (λ_=>I) (λ_=>I) I) ?_;refine B8 (Zy (xs:=[.int .i64 0,.int .i64 0]) (ys:=[.int .i64 0,.int .i64 0]) (r:=true) (ks:=_) Ac7 Akn I I I (λ_=>I) (λ_=>I) I) ?_;conv=>whnf
 refine P9 tqS ?_;conv=>whnf
 refine P9 tqS ?_;refine B8 (Zy (xs:=Bv y.stat) (ys:=Bv y.stat) (r:=true) (ks:=_) FQ QX I I I (λ_=>I) (λ_=>I) (by rw[KI,D4 I])) ?_;conv=>whnf
 refine P9 tqS ?_;conv=>whnf
 refine P9 tqS ?_;conv=>whnf
 refine P9 tqS ?_;refine B8 (Zy (xs:=Ke y.ctr) (ys:=Ke y.ctr) (r:=true) (ks:=_) Sj Yh I I I (λ_=>I) (λ_=>I) (by rw[RZ,D4 I])) ?_;refine tqc I5 (λ_=>hT) ?_;refine tqc I5 (λ_=>Ae4) ?_;refine tqc I5 (λ_=>Aex) ?_;exact tqE
theorem YB {a b off cap m k:Nat} {qs:List (Ltr×Sls)} {q:Ltr×Sls} (hq:qs[k]? =some q) (_:a=0) (A:Nat->Prop) (w:World) (h:(slF Hg 27 (.slice (some ⟨b,off,none⟩) m cap) qs).h A w):∀j u,(X3 q.1 q.2)[j]? =some u->w.cell? ⟨b,off+k*27+1+j,none⟩=some u:=λj u hu=>by
 have:=Eg hq (j:=j+1) (u:=u) (by simpa [Hg] using hu) A w h;rw[show off+k*27+1+j=off+k*27+(j+1) by omega];exact this
theorem EN (a:Option Addr) (c:Nat) (qs:List (Ltr×Sls)) (b:Option Addr) (d:Nat) (rs:List (Ltr×Sls)) (he:qs.map Prod.fst=rs.map Prod.fst) (hs:∀q∈qs,q.1.tok.small) (hl:qs.length<=1000000):Cm prog 15 [.slice a qs.length c,.slice b rs.length d] [] (C5 (.slice a qs.length c) qs::C5 (.slice b rs.length d) rs::[]) (Bd (.bool true)):=by
 have hle:qs.length=rs.length:=by have:=Fb List.length he;simpa using this
 rw[hle] at hl;refine tqm [.o (.v (.slice a qs.length c)),.o (.v (.slice b rs.length d))] func15 ntmps15 λ_ _=>?_;rw[hle];conv=>whnf
 refine OD tqS ?_;refine Br (γ:=Nat) (λk=>k<=rs.length) (λk=>[(5,.o (.v (.int .i64 k)))]) (λ_=>[]) (λ_=>[]) (λk=>rs.length- k) 0 (Ax _) Ac ?_;rintro k hk;refine Ai (λh1=>?_) λh1=>?_;rotate_left
 ·exact tqE
 obtain⟨⟨y,s⟩,hx⟩:=A9 (xs:=qs) (k:=k);obtain⟨⟨y2,r⟩,hz⟩:=A9 (xs:=rs) (k:=k);have hyy:y=y2:=by
  have h3:(qs.map Prod.fst)[k]? =some y:=by rw[Cq,hx];rfl
  rw[he,Cq,hz] at h3;exact(Ij h3).symm
 subst hyy;have hsm:=hs _ (Av hx);refine Ec (C5 (.slice a rs.length c) qs) (λA w h=>B1 hx A w (Yx h)) ?_;rintro ⟨ba,oa,rfl⟩;refine Ec (C5 (.slice b rs.length d) rs) (λA w h=>B1 hz A w (Yx h)) ?_;rintro ⟨bb,ob,rfl⟩;refine Rl (Air (slF Hg 27 (.slice (some ⟨ba,oa,none⟩) rs.length c) qs::slF Hg 27 (.slice (some ⟨bb,ob,none⟩) rs.length d) rs::C5 (.slice (some ⟨ba,oa,none⟩) rs.length c) qs::C5 (.slice (some ⟨bb,ob,none⟩) rs.length d) rs::(Bs y.tok s++Bs y.tok r)) λA w h f hf=>?_) ?_
 ·have g1:=h (C5 (.slice (some ⟨ba,oa,none⟩) rs.length c) qs) tqS;have g2:=h (C5 (.slice (some ⟨bb,ob,none⟩) rs.length d) rs) tqS;rcases Ap.1 hf with rfl|hf
  ·exact Yx g1
  rcases Ap.1 hf with rfl|hf
  ·exact Yx g2
  rcases Ap.1 hf with rfl|hf
  ·exact g1
  rcases Ap.1 hf with rfl|hf
  ·exact g2
  rcases B4.1 hf with hf|hf
  ·exact g1.2 _ (Av hx) f hf
  ·exact g2.2 _ (Av hz) f hf
 refine Ao [22] (tqs 0 24<| .op 24 .z) [] [] [] [slF Hg 27 (.slice (some ⟨ba,oa,none⟩) rs.length c) qs,slF Hg 27 (.slice (some ⟨bb,ob,none⟩) rs.length d) rs] λ_=>?_;refine⟨_,Bb (m:=rs.length) (i:=k),?_⟩;refine⟨_,Ce (slF Hg 27 (.slice (some ⟨ba,oa,none⟩) rs.length c) qs) (Eg hx (j:=0) I),?_⟩;refine⟨_,Bb (m:=rs.length) (i:=k),?_⟩;refine⟨_,Ce (slF Hg 27 (.slice (some ⟨bb,ob,none⟩) rs.length d) rs) (Eg hz (j:=0) I),?_⟩;conv=>whnf
 refine OD tqS ?_;refine⟨_,Bb (m:=rs.length) (i:=k),?_⟩;refine⟨_,Cu (vs:=X3 y s) (slF Hg 27 (.slice (some ⟨ba,oa,none⟩) rs.length c) qs) (YB (a:=0) hx I),?_⟩;refine⟨_,Bb (m:=rs.length) (i:=k),?_⟩;refine⟨_,Cu (vs:=X3 y r) (slF Hg 27 (.slice (some ⟨bb,ob,none⟩) rs.length d) rs) (YB (a:=0) hz I),?_⟩;refine tqc I5 (λ_=>UJ y s r hsm) (hF0:=λf hf=>.tail _ (.tail _ (.tail _ (.tail _ hf)))) ?_;refine tqQ<|Af (z:=(k+1:Nat)) ?_;exact⟨k+1,tqO,tqP,Ac⟩
end Go.Proofs.YtjofafbkkpdgbaaGreat
