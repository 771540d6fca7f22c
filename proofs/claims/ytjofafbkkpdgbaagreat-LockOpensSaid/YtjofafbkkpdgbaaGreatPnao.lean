/- A part of the proof of LockOpens: rules and contracts. No condition. -/
import Derived.Test.YtjofafbkkpdgbaaGreatPnan
set_option maxRecDepth 100000
set_option maxHeartbeats 4000000
set_option linter.all false
namespace Go.Proofs.YtjofafbkkpdgbaaGreat
open Go.Proofs.Tryz
open Go.RowKit Go.Shelf
theorem BC {α:Type} {p:α->Bool}:∀ {l:List α} {j:Nat} {y:α},(l.filter p)[j]? =some y->∃i,l[i]? =some y/\p y=true/\(l.take i).filter p=(l.filter p).take j
 | [],j,y,h=>by simp at h
 |x::r,j,y,h=>by
  rw[L7] at h;cases hp:p x
  ·rw[hp,Ar tqS] at h;obtain⟨i,h1,h2,h3⟩:=BC h;exact⟨i+1,by simpa using h1,h2,by rw[Q2,L7,hp,Ar tqS,h3,L7,hp,Ar tqS]⟩
  ·rw[hp,Bi I] at h;cases j with
   |zero=>
    simp at h;subst h;exact⟨0,I,hp,tqS⟩
   |succ j=>
    rw[Ip] at h;obtain⟨i,h1,h2,h3⟩:=BC h;exact⟨i+1,by simpa using h1,h2,by rw[Q2,L7,hp,Bi I,h3,L7,hp,Bi I,Q2]⟩
variable {i:Nat}
theorem Ak3 {x:Tok} {known:List Sta} {t:Sta} (ht:known[i]? =some t) (hp:t.pend=false):We x known i=[]:=by
 unfold We;rw[ht];simp only[O7,hp,Hb,By]
theorem IX (x:Tok) (known:List Sta):∀k,k<=known.length->((known.zipIdx.take k).filter pdP).flatMap (λq=>We x known q.2)=Ea k x known
 |0,_=>by simp[Ea]
 |k+1,hk=>by
  obtain⟨t,ht⟩:∃t,known[k]? =some t:=⟨_,A8 tqO⟩;rw[Dl,MR ht,Js,Em,IX x known k tqO,EL]
  congr 1
  cases hp:t.pend
  ·rw[Ak3 ht hp];simp[pdP,hp]
  ·simp[pdP,hp]
def Wf (j:Nat) (x:Tok) (known:List Sta):List Wt:=((pdL known).take j).flatMap λq=>We x known q.2
variable {j:Nat}
theorem Ak4 {x:Tok} {known:List Sta} {q:Sta×Nat} (h:(pdL known)[j]? =some q):known[q.2]? =some q.1/\q.1.pend=true/\Wf j x known=Ea q.2 x known/\Wf (j+1) x known=Ea q.2 x known++We x known q.2:=by
 obtain⟨i,h1,h2,h3⟩:=BC h;obtain⟨e1,e2⟩:=VW h1;have hi:=(Aa.1 e1).1;have hj:Wf j x known=Ea q.2 x known:=by
  unfold Wf pdL;rw[<-h3,IX x known i tqO,e2]
 refine⟨by rw[e2];exact e1,h2,hj,?_⟩;rw[<-hj];unfold Wf;rw[Dl,h,Em];simp
theorem Ahq (x:Tok) (known:List Sta):Wf (pdL known).length x known=Ea known.length x known:=by
 unfold Wf;rw[D3,<-IX x known known.length (Ak _),Dm (by rw[List.length_zipIdx];exact Ak _)];rfl
section
variable {X:Fx} {o:Oper} {T:TE} {L:LE} {n:Nat} {F:List Fact} {D:DF} {K:KK} {k:KS}
theorem GM {α:Type} {enc:α->List Value} {t ct:TypeId} {x:Operand} {j off sz i q:Nat} {xs:List α} {y:α} {u:Value} {junk:List Value} (hy:xs[i]? =some y) (henc:∀x,(enc x).length=sz) (hu:(enc y)[q]? =some u) (hoff:off=i*sz+q) (ho:o.op=.load t x) (hk:Ah X.tab.kd t=some none) (hx:evS T x=some (.o (.p j off))) (hL:Ah L j=some (D9 (xs.flatMap enc++junk) ct)):Yd X o T L F (.o (.v u)):=by
 subst hoff;exact VU (v:=u) ho hk hx hL (by simp only[Jq];exact CU henc hy hu junk) λ_=>I
end
theorem SS (b:Nat):Cm prog 224 [.pointer (some ⟨b,0,none⟩)] [(b,G5 Fd Dx,33)] [] (λe cs F1=>e=.returned (.tuple #[])/\cs=[G5 Fd Dx]/\F1=[]):=by
 refine tqm [.o (.p 0 0)] func224 ntmps224 (hargs:=λρ h=>by simp[TV.den,SV.den,h 0 b I]) λ_ _=>?_;exact Al [] I2 λ_=>⟨I,I,I⟩
def Ads (ki:IntKind) (n l s:Int) (x:Tok) (known:List Sta):Gx:=λe _ F1=>((Fq n l s x&&Hn n l s known)=true/\∃p',e=.returned (.tuple #[.agg (G5 (Gt x known) p').toArray,.int ki 0])/\F1=Bs (Gt x known) p')\/((Fq n l s x&&Hn n l s known)=false/\e=.returned (.tuple #[.agg (G5 Fd Dx).toArray,.int ki 2])/\F1=Bs Fd Dx)
variable {q:List Wt}
theorem JY {z:Int} (h:q.any (λw=>w.site == z)=false):J5 q z=q:=by
 unfold J5;rw[Hi];intro w hw;have:=Gy.1 h w hw;simpa using this
theorem JX {hs:List Hd} {z:Int} (h:hs.any (C9 z)=false):Lz hs z=hs:=by
 unfold Lz;rw[Hi];intro w hw;have:=Gy.1 h w hw;simpa using this
theorem Ajn (a:Option Addr) (cap:Nat) (xs:List Wt) (z:Int) (hl:xs.length<=1000000) (hW:D5 xs=true):Cm prog 282 [.slice a xs.length cap,.int .i64 z] [] [slF wtL 5 (.slice a xs.length cap) xs] (λe _ F1=>(J5 xs z=xs/\e=.returned (.tuple #[.slice none 0 0,.int .i64 5])/\F1=[])\/∃a c,e=.returned (.tuple #[.slice a (J5 xs z).length c,.int .i64 0])/\F1=[slF wtL 5 (.slice a (J5 xs z).length c) (J5 xs z)]):=
 Cm.mono (Acd a cap xs z hl) λe cs F1 h=>by
  unfold FE at h;rw[Ar (by rw[hW];simp)] at h;split at h
  ·rename_i h2;refine .inl ⟨JY ?_,h.1,h.2⟩;unfold Md at h2;rw[<-Hq];exact h2
  ·exact .inr h
theorem Ac0 (a:Option Addr) (cap:Nat) (xs:List Hd) (z use:Int) (hl:xs.length<=1000000) (hB:Ff xs=true) (hu:∀x∈xs,x.site=z->x.use<=use):Cm prog 283 [.slice a xs.length cap,.int .i64 z,.int .i64 use] [] [slF hdL 3 (.slice a xs.length cap) xs] (λe _ F1=>(Lz xs z=xs/\e=.returned (.tuple #[.slice none 0 0,.int .i64 5])/\F1=[])\/∃a c,e=.returned (.tuple #[.slice a (Lz xs z).length c,.int .i64 0])/\F1=[slF hdL 3 (.slice a (Lz xs z).length c) (Lz xs z)]):=
 Cm.mono (Adi a cap xs z use hl) λe cs F1 h=>by
  unfold IL at h;rw[Ar (by rw[hB];simp)] at h;split at h
  ·rename_i h2;refine .inl ⟨JX ?_,h.1,h.2⟩;cases hA:xs.any (C9 z)
   ·rfl
   ·obtain⟨i,x,_,hx,hs,hf,_⟩:=Za hA;unfold RW at h2;rw[hA,hf,D4 (hu x (Av hx) hs)] at h2;cases h2
  ·exact .inr h
theorem Alw (a:Option Addr) (cap:Nat) (q:List Wt) (w:Wt) (hl:q.length<=1000000) (hW:D5 q=true) (hw:wtB w=true) (hf:Vj q w.site=false):Cm prog 228 [.slice a q.length cap,.agg (wtL w).toArray] [] [slF wtL 5 (.slice a q.length cap) q] (λe _ F1=>∃a c,e=.returned (.tuple #[.slice a (q.length+1) c,.int .i64 0])/\F1=[slF wtL 5 (.slice a (q.length+1) c) (q++[w])]):=
 Cm.mono (Afu a cap q w hl) λe cs F1 h=>by
  unfold JK at h;rw[Ar (by rw[hW,hw];simp),Ar (by rw[hf];simp)] at h;exact h
theorem YI (x:Tok) (known:List Sta) (h:D5 x.q=true):qK 0 x known=x.q:=by
 unfold qK;rw[Hi];intro w hw;have:=Zx ((Ft.1 h).2.1 w hw);rw[show decide (w.site<((0:Nat):Int))=false by simp;omega];rfl
theorem SM (x:Tok) (known:List Sta) (h:Ff x.hs=true):hsK 0 x known=x.hs:=by
 unfold hsK;rw[Hi];intro w hw;have:=Rq ((Mn.1 h).1 w hw);rw[show decide (w.site<((0:Nat):Int))=false by simp;omega];rfl
theorem Akd (n l s:Int) (x:Tok) (p:Sls) (a4:Option Addr) (c4:Nat) (known:List Sta) (hx:x.small) (hk:known.length<=1000000):Cm prog 149 [.agg #[.int .i64 n,.int .i64 l,.int .i64 s],.agg (G5 x p).toArray,.slice a4 known.length c4] [] (Bs x p++[slF Bv 4 (.slice a4 known.length c4) known]) (Ads .i64 n l s x known):=by
 have hO:=Aii n l s x p hx;refine tqn [.g [.v (.int .i64 n),.v (.int .i64 l),.v (.int .i64 s)],.g (Ps x p),.o (.v (.slice a4 known.length c4))] func149 ntmps149 I I (λ_ _=>I) λ_ _=>?_;refine Sp I I I I I I I I ?_;refine Cf (mu:=[]) [] I7 trivial hO (hF0:=by simp[Bs]) ?_;rintro r Ls F1 (⟨hB,p',junk,hc1,rfl,rfl,rfl⟩|⟨hB,rfl,rfl,rfl⟩);rotate_left
 ·refine Rb [2] Ri (Df func132 tqK I) (Df func224 tqK I) I tqS (λρ=>SS _) I (Fg ?_);refine Eh (Bs Fd Dx) (λA w _ f hf=>Ib f hf) ?_;exact Al (Bs Fd Dx) I2 λ_=>.inr ⟨by simp[hB],I,I⟩
 refine Aj [7] [] I7 (F0:=[slF Bv 4 (.slice a4 known.length c4) known]) (λρ=>XZ n l s a4 c4 known (ρ 7) hk) (hno:=.inr tqH) ?_;rintro e cs F1 _ ⟨⟨v,rfl⟩,rfl⟩;cases hK:Hn n l s known
 ·refine Aj [] [] I7 (λ_=>Oc false 2) ?_;rintro e cs F1 _ ⟨⟨hb,rfl⟩|⟨hb,rfl⟩,rfl⟩
  ·cases hb
  replace hB:(Fq n l s x&&Hn n l s known)=false:=by rw[hK];simp
  refine Rb [2] Ri (Df func132 tqK I) (Df func224 tqK I) I tqS (λρ=>SS _) I (Fg ?_);refine Eh (Bs Fd Dx) (λA w _ f hf=>Ib f hf) ?_;exact Al (Bs Fd Dx) I2 λ_=>.inr ⟨by simp[hB],I,I⟩
 refine Aj [] [] I7 (λ_=>Oc true 2) ?_;rintro e cs F1 _ ⟨⟨hb,rfl⟩|⟨hb,rfl⟩,rfl⟩;rotate_left
 ·cases hb
 have H:=LrnH.of hB hK;have hql:∀k,(qK k x known).length<=1000000:=λk=>Bf (Mq _ _) hx.2.1;have hhl:∀k,(hsK k x known).length<=1000000:=λk=>Bf (Mq _ _) hx.2.2;refine Pw [slF wtL 5 (.slice p'.a2 x.q.length p'.c2) x.q,slF hdL 3 (.slice p'.a3 x.hs.length p'.c3) x.hs,slF Bv 4 (.slice a4 known.length c4) known] (λA w h f hf=>h f (by simp only[Ap,Bw,Ed] at hf;rcases hf with rfl|rfl|rfl<;>simp[Zu])) ?_;refine Br (γ:=Nat×(Option Addr×Nat)×Option Addr×Nat) (λg=>g.1<=known.length) (λg=>[(37,.o (.v (.int .i64 g.1)))]) (λg=>[(4,.c [.v (.int .i64 x.age),.s 5 0 x.seq.length p'.c1,.v (.slice g.2.1.1 (qK g.1 x known).length g.2.1.2),.v (.slice g.2.2.1 (hsK g.1 x known).length g.2.2.2),.v (.int .i64 x.c.value),.v (.int .i64 x.c.floor),.v (.int .u64 x.c.version),.v (.int .i64 n),.v (.int .i64 l),.v (.int .i64 s)] 213),(5,D9 ((sqK g.1 x known).flatMap Bt++junk) 2)]) (λg=>[slF wtL 5 (.slice g.2.1.1 (qK g.1 x known).length g.2.1.2) (qK g.1 x known),slF hdL 3 (.slice g.2.2.1 (hsK g.1 x known).length g.2.2.2) (hsK g.1 x known)]) (λg=>known.length- g.1) (0,(p'.a2,p'.c2),p'.a3,p'.c3) (Ax _) ?_ ?_
 ·simp only[YI x known H.wait,SM x known H.hold,sqK,AC];exact Ac (hD:=Tx I I)
 rintro ⟨k,⟨a2,c2⟩,a3,c3⟩ hkl;dsimp only at hkl⊢;refine Ai (λh1=>?_) λh1=>?_
 ·obtain⟨t,ht⟩:=A9 (xs:=known) (k:=k);obtain⟨o,ho⟩:=A9 (xs:=x.seq) (k:=k) (h:=by rw[H.len];omega);have hsk:(sqK k x known)[k]? =some o:=by rw[H.seqAt ho ht,Ar (Tz _)]
  have hkx:k<x.seq.length:=by rw[H.len];omega
  have hqs:=H.qStep ho ht;have hhs:=H.hsStep ho ht;have hss:=H.seqStep ho ht;refine Dk (slF Bv 4 (.slice a4 known.length c4) known) (B1 ht) ?_;rintro ⟨b,off,rfl⟩;refine Au (Bb (i:=k)) ?_;refine Au (Cu (vs:=Bv t) (slF Bv 4 (.slice (some ⟨b,off,none⟩) known.length c4) known) (Du ht)) ?_;refine Ao [] (tqs 0 10<| .op 10 .z) [4,5,6,8] [] [] [] λ_=>?_;refine⟨_,Ay (i:=k) (hi:=hkx),?_⟩;refine⟨_,GM (enc:=Bt) (sz:=1) (q:=0) hsk (λ_=>I) I (by rw[Bl,Eb]) I I I I,?_⟩;refine Ai (λh2=>?_) λh2=>?_
  ·rw[D4 h2,Ci] at hqs hhs hss;have hW:D5 (qK k x known)=true:=VN _ H.wait;have hHd:Ff (hsK k x known)=true:=Vm _ H.hold;refine En func225 ntmps225 ?_;intro w1 A1 M1 N1 hN1;refine Au (Ay (i:=k) (hi:=hkx)) ?_;refine Zm (q:=0) (enc:=Bt) (sz:=1) (ys:=[.int .i64 t.over]) t.over hsk (λ_=>I) I I I I (by rw[Bl,Eb]) I I (by simp[Value.oneCell']) I I (Ak _) I ?_;refine Aj [] [] I7 (λ_=>Ajn a2 c2 (qK k x known) k (hql k) hW) ?_;rintro e cs F1 _ (⟨e1,rfl,rfl⟩|⟨a5,c5,rfl,rfl⟩)
   ·refine Aj [] [] I7 (λ_=>Ac0 a3 c3 (hsK k x known) k t.over (hhl k) hHd (λh hh hs=>by have:=H.holdUse ho ht hh hs;omega)) ?_;rintro e cs F1 _ (⟨e2,rfl,rfl⟩|⟨a6,c6,rfl,rfl⟩)
    ·refine⟨I,?_⟩;refine Af (z:=(k+1:Nat)) ?_;refine⟨(k+1,(a2,c2),a3,c3),tqP,tqP,?_⟩;simp only[hqs,hhs,hss,e1,e2];exact Ac (hD:=Tx I I)
    ·refine⟨I,?_⟩;refine Af (z:=(k+1:Nat)) ?_;refine⟨(k+1,(a2,c2),a6,c6),tqP,tqP,?_⟩;simp only[hqs,hhs,hss,e1];exact Ac (hD:=Tx I I)
   ·refine Aj [] [] I7 (λ_=>Ac0 a3 c3 (hsK k x known) k t.over (hhl k) hHd (λh hh hs=>by have:=H.holdUse ho ht hh hs;omega)) ?_;rintro e cs F1 _ (⟨e2,rfl,rfl⟩|⟨a6,c6,rfl,rfl⟩)
    ·refine⟨I,?_⟩;refine Af (z:=(k+1:Nat)) ?_;refine⟨(k+1,(a5,c5),a3,c3),tqP,tqP,?_⟩;simp only[hqs,hhs,hss,e2];exact Ac (hD:=Tx I I)
    ·refine⟨I,?_⟩;refine Af (z:=(k+1:Nat)) ?_;refine⟨(k+1,(a5,c5),a6,c6),tqP,tqP,?_⟩;simp only[hqs,hhs,hss];exact Ac (hD:=Tx I I)
  ·rw[Gg h2,By] at hqs hhs hss;refine Af (z:=(k+1:Nat)) ?_;refine⟨(k+1,(a2,c2),a3,c3),tqP,tqP,?_⟩;simp only[hqs,hhs,hss];exact Ac (hD:=Tx I I)
 obtain rfl:k=known.length:=by omega
 clear h1 hkl;refine Ni [(59,.o (.v (.slice a4 known.length c4))),(8,.o (.p 6 0)),(6,.o (.p 2 0)),(7,.o (.p 3 0))] [(0,.c [.v (.int .i64 n),.v (.int .i64 l),.v (.int .i64 s)] 23),(1,.c (Ps x p) 33),(2,.c ((G5 Fd Dx).map SV.v) 33),(3,.c [.v (.int .i64 0)] 45),(4,.c [.v (.int .i64 x.age),.s 5 0 x.seq.length p'.c1,.v (.slice a2 (qK known.length x known).length c2),.v (.slice a3 (hsK known.length x known).length c3),.v (.int .i64 x.c.value),.v (.int .i64 x.c.floor),.v (.int .u64 x.c.version),.v (.int .i64 n),.v (.int .i64 l),.v (.int .i64 s)] 213),(5,D9 ((sqK known.length x known).flatMap Bt++junk) 2),(6,.c [.p 4 0] 209)] 7 [slF Bv 4 (.slice a4 known.length c4) known,slF wtL 5 (.slice a2 (qK known.length x known).length c2) (qK known.length x known),slF hdL 3 (.slice a3 (hsK known.length x known).length c3) (hsK known.length x known)] (Ac (hD:=Tx I I)) ?_;refine Aj [] [] I7 (λ_=>Aes a4 c4 known hk) ?_;rintro e cs F1 _ ⟨b9,a9,c9,rfl,rfl⟩;refine Rk (γ:=Option Addr×Nat) (λ_ _=>True) (λj g=>([(0,.c [.v (.int .i64 n),.v (.int .i64 l),.v (.int .i64 s)] 23),(1,.c (Ps x p) 33),(2,.c ((G5 Fd Dx).map SV.v) 33),(3,.c [.v (.int .i64 0)] 45),(4,.c [.v (.int .i64 x.age),.s 5 0 x.seq.length p'.c1,.v (.slice g.1 (qK known.length x known++Wf j x known).length g.2),.v (.slice a3 (hsK known.length x known).length c3),.v (.int .i64 x.c.value),.v (.int .i64 x.c.floor),.v (.int .u64 x.c.version),.v (.int .i64 n),.v (.int .i64 l),.v (.int .i64 s)] 213),(5,D9 ((sqK known.length x known).flatMap Bt++junk) 2),(6,.c [.p 4 0] 209)],[B9 b9 [.slice a9 known.length c9] 36,slF Bv 4 (.slice a9 known.length c9) known,slF wtL 5 (.slice g.1 (qK known.length x known++Wf j x known).length g.2) (qK known.length x known++Wf j x known),slF hdL 3 (.slice a3 (hsK known.length x known).length c3) (hsK known.length x known)])) (a2,c2) (Ahs a9 c9 known b9 hk) I I I (λ_=>I) I (Ax _) trivial ?_ tqS ?_ ?_
 ·have e:Wf 0 x known=[]:=by simp[Wf]
  simp only[e,Bu];exact Ac (hD:=Tx I I)
 ·rintro j ⟨t,i⟩ ⟨a2,c2⟩ hq- l1 w1 A1 M1 N1 hN1;obtain⟨ht,hp,e1,e2⟩:=Ak4 (x:=x) hq;dsimp only at ht hp e1 e2;have hi:=(Aa.1 ht).1;obtain⟨o,ho⟩:=A9 (xs:=x.seq) (k:=i) (h:=by rw[H.len];omega);have hix:i<x.seq.length:=by rw[H.len];omega
  have hsk:(sqK known.length x known)[i]? =some (upS o t):=by rw[H.seqAt ho ht,Bi hi]
  have hW:=H.waitMix (a:=known.length) (b:=i) tqO;have hQl:(qK known.length x known++Ea i x known).length<=1000000:=by have:=(Ft.1 hW).1;omega
  have hHd:Ff (hsK known.length x known)=true:=Vm _ H.hold;have hPen:=Aa8 (a:=known.length) (b:=i) hi (Ak _) ho ht;rw[hp,C8] at hPen;have hFd:=DC a2 c2 (qK known.length x known++Ea i x known) i hQl;have hfw:Vj (qK known.length x known++Ea i x known) i=(qK known.length x known++Ea i x known).any λw=>w.site == i:=by
   unfold Vj Md;rw[hW,Tv,Hq]
  rw[hfw] at hFd;have hFh:=CF a3 c3 (hsK known.length x known) i (hhl _);rw[BL hHd] at hFh;have hpA:We x known i=bif O7 x known i t then [Q5 i t] else []:=by unfold We;rw[ht]
  simp only[e1];generalize hgw:(qK known.length x known++Ea i x known).any (λw=>w.site == i)=bw at hFd hPen;generalize hgh:(hsK known.length x known).any (C9 i)=bh at hFh hPen;intro w2 A2 M2 N2 hN2;refine⟨I,?_⟩;refine tqc I5 (λ_=>hFd) ?_;refine tqc I5 (λ_=>hFh) ?_;cases bw;rotate_left
  ·have hP:O7 x known i t=false:=by rw[hPen];simp
   refine Ao [] (tqs 0 16<| .op 16 .z) [4,5,6,7] [] [] [] (hXN:=Bf (Fy hN2) (Cy I)) λ_=>?_;refine⟨(a2,c2),trivial,?_⟩;rw[hP,By] at hpA;simp only[e2,hpA,Bu];exact Ac (hM:=Fy hN2)
  cases bh;rotate_left
  ·have hP:O7 x known i t=false:=by rw[hPen];simp
   refine Ao [] (tqs 0 16<| .op 16 .z) [4,5,6,7] [] [] [] (hXN:=Bf (Fy hN2) (Cy I)) λ_=>?_;refine⟨(a2,c2),trivial,?_⟩;rw[hP,By] at hpA;simp only[e2,hpA,Bu];exact Ac (hM:=Fy hN2)
  refine Ao [] (tqs 0 16<| .op 16 .z) [4,5,6,7] [] [] [] (hXN:=Bf (Fy hN2) (Cy I)) λ_=>?_;refine⟨_,Ay (i:=i) (hi:=hix),?_⟩;refine⟨_,GM (enc:=Bt) (sz:=1) (q:=0) hsk (λ_=>I) I (by rw[Bl,Eb]) I I I I,?_⟩;refine A7 (λh1=>?_) λh1=>?_
  ·have hP:O7 x known i t=false:=by rw[hPen];simp at h1;simp[h1]
   refine⟨(a2,c2),trivial,?_⟩;rw[hP,By] at hpA;simp only[e2,hpA,Bu];exact Ac (hM:=Fy hN2)
  have hP:O7 x known i t=true:=by rw[hPen];simp at h1;simp[h1]
  have hwt:=(H.pen ht hP).1;have hov:0<=t.over/\t.over<=1099511627776:=by
   have g:=H.sta t (Av ht);rw[Gk,hp,Ci] at g;simp only[Ad,Aq] at g;omega
  have hAdd:=Alw a2 c2 (qK known.length x known++Ea i x known) (Q5 i t) hQl hW hwt (hfw.trans hgw);refine Ao [13,14] (tqs 0 19<| .op 19 .z) [4,6,7] [] [] [] (hXN:=Bf (Fy hN2) (Cy I)) λ_=>?_;refine⟨_,Cb (z:=t.over+1) (ho:=I) (hx:=I) (hy:=I) (hr:=I) (hz:=by dsimp only;rw[Ey]<;>omega),?_⟩;refine tqQ<|Aj [] [] I7 (λ_=>hAdd) ?_;rintro e cs F1 _ ⟨a5,c5,rfl,rfl⟩;refine tqQ<|En func157 ntmps157 ?_;intro w3 A3 M3 N3 hN3;refine Aj [] [] I7 (λ_=>Oc true 0) ?_;rintro e cs F1 _ ⟨⟨_,rfl⟩|⟨hb,rfl⟩,rfl⟩;rotate_left
  ·cases hb
  refine⟨I,?_⟩;have e3:qK known.length x known++Wf (j+1) x known=qK known.length x known++Ea i x known++[Q5 i t]:=by rw[e2,hpA,hP,Ci,Cp]
  have e4:(qK known.length x known++Ea i x known++[Q5 i t]).length=(qK known.length x known++Ea i x known).length+1:=by rw[Az];rfl
  refine⟨(a5,c5),trivial,?_⟩;simp only[e3,e4];exact Ac (hM:=Fy hN2)
 ·rintro ⟨a2,c2⟩ -;simp only[Ahq];refine Yb (Oa Qo I ?_);refine Ag9 5 I I I I λg=>?_;refine Lm O3 (Df func132 tqK I) (Fg ?_);have hsl:(sqK known.length x known).length=x.seq.length:=by rw[H.seqLen,H.len]
  refine Eh (Bs (Gt x known) ⟨some ⟨g,0,none⟩,p'.c1,a2,c2,a3,c3⟩) (λA w h f hf=>by
   simp only[Bs,Ap,Bw,Ed] at hf;rcases hf with rfl|rfl|rfl
   ·exact Wj (enc:=Bt) I (by show (sqK known.length x known).length<=p'.c1;omega) (λ_=>I) (h (B9 g ((sqK known.length x known).flatMap Bt++junk) 2) tqS)
   ·exact h _ (by simp[Gt])
   ·exact h _ (by simp[Gt])) ?_
  exact Al (Bs (Gt x known) ⟨some ⟨g,0,none⟩,p'.c1,a2,c2,a3,c3⟩) I2 (λ_=>.inl ⟨by rw[hB,hK];rfl,⟨some ⟨g,0,none⟩,p'.c1,a2,c2,a3,c3⟩,by unfold G5 Gt;dsimp only;rw[hsl];rfl,I⟩) (hF:=λf hf=>by simp[hf])
def X9 (n l s me:Int) (x:Tok):Value:=bif Fq n l s x&&Fk n me then(match L3 s me x with|some z=>.tuple #[.int .i64 z,.bool true,.int .i64 0]|none=>.tuple #[.int .i64 0,.bool false,.int .i64 0]) else .tuple #[.int .i64 0,.bool false,.int .i64 2]
theorem XV (b c:Nat):Cm prog 152 [.pointer (some ⟨b,0,none⟩),.pointer (some ⟨c,0,none⟩)] [(b,[.int .i64 0],3),(c,[.bool false],4)] [] (λe cs F1=>e=.returned (.tuple #[])/\cs=[[.int .i64 0],[.bool false]]/\F1=[]):=by
 refine tqm [.o (.p 0 0),.o (.p 1 0)] func152 ntmps152 (hargs:=λρ h=>by simp[TV.den,SV.den,h 0 b I,h 1 c I]) λ_ _=>?_;exact Al [] I2 λ_=>⟨I,I,I⟩
theorem Lr {n l s:Int} {x:Tok} (h:Fq n l s x=true):Ef n l s=true/\Ff x.hs=true/\(x.seq.length:Int)=n*s/\(∀h∈x.hs,Gm x.seq h.site h.use=true)/\D5 x.q=true:=by
 simp only[Fq,Ad,A6,Aq,Kq] at h;obtain⟨⟨⟨⟨⟨⟨⟨⟨⟨h1,h2⟩,h3⟩,h4⟩,h5⟩,h6⟩,h7⟩,h8⟩,h9⟩,h10⟩:=h;exact⟨h1,h6,h3,h10,h4⟩
theorem OM {n l s:Int} {x:Tok} (h:Fq n l s x=true) {y:Hd} (hy:y∈x.hs):0<=y.site/\y.site<n*s:=by
 obtain⟨_,h2,h3,h4,_⟩:=Lr h;have h5:=h4 y hy;simp only[Gm,Ad,Aq] at h5;have:=Rq ((Mn.1 h2).1 y hy);omega
theorem Agv {n l s:Int} {x:Tok} (h:Fq n l s x=true):ofX n l s (Hk wrH x.hs).site=.tuple #[.int .i64 ((Hk wrH x.hs).site.tdiv s),.int .i64 ((Hk wrH x.hs).site.tmod s),.int .i64 0]:=by
 obtain⟨h1,h2,_⟩:=Lr h;have hz:0<=(Hk wrH x.hs).site/\(Hk wrH x.hs).site<n*s:=by
  have:=Um h1;cases hA:x.hs.any wrH
  ·have h0:¬0<=Hl wrH x.hs:=by
    intro hc;rw[<-Hq] at hA;simp at hA;omega
   rw[show Hk wrH x.hs=hdZ by unfold Hk;rw[Ar h0]];show (0:Int)<=0/\(0:Int)<n*s
   omega
  ·have h0:0<=Hl wrH x.hs:=by rw[<-Hq] at hA;simpa using hA
   obtain⟨i,y,hi,hy,_⟩:=Rr h0;have e:Hk wrH x.hs=y:=by unfold Hk;rw[Bi h0,hi];simp[D1,hy]
   rw[e];exact OM h (Av hy)
 unfold ofX;rw[h1,show Fk (n*s) (Hk wrH x.hs).site=true by simp[Fk];omega];rfl
theorem Ama (n l s me:Int) (x:Tok) (p:Sls) (hx:x.small):Cm prog 85 [.agg #[.int .i64 n,.int .i64 l,.int .i64 s],.agg (G5 x p).toArray,.int .i64 me] [] (Bs x p) (Bd (X9 n l s me x)):=by
 have hO:=GD n l s x p hx;have hV:X9 n l s me x=bif Fq n l s x&&Fk n me then(match L3 s me x with|some z=>.tuple #[.int .i64 z,.bool true,.int .i64 0]|none=>.tuple #[.int .i64 0,.bool false,.int .i64 0]) else .tuple #[.int .i64 0,.bool false,.int .i64 2]:=I
 refine tqn [.g [.v (.int .i64 n),.v (.int .i64 l),.v (.int .i64 s)],.g (Ps x p),.o (.v (.int .i64 me))] func85 ntmps85 I I (λ_ _=>I) λ_ _=>?_;refine Sp I I I I I I I I ?_;refine Cf (mu:=[]) [] I7 trivial hO (hF0:=by simp[Bs]) ?_;rintro r Ls F1 (⟨hB,p',rfl,rfl,rfl⟩|⟨hB,rfl,rfl,rfl⟩);rotate_left
 ·rw[hB,Hb,By] at hV;rw[hV];refine Rb [2,3] Ri (Df func132 tqK I) (Df func152 tqK I) I tqS (λρ=>XV _ _) I (Fg ?_);exact tqE
 rw[hB,C8] at hV;obtain⟨h1,h2,h3,_⟩:=Lr hB;have hsh:=In h1;have hWr:=SK p'.a3 p'.c3 x.hs hx.2.2;rw[BL h2] at hWr;have hSi:=Agv hB;refine Af (z:=n- 1) (hz:=by rw[Ey]<;>omega) (ho:=I) (hx:=I) (hy:=I) (hr:=I) ?_;have hIn:inB me 0 (n- 1)=Fk n me:=by
  unfold inB Fk;rw[show decide (me<=n- 1)=decide (me<n) by rw[Be];simp;omega]
 refine tqc I5 (λ_=>HW me 0 (n- 1)) ?_;rw[hIn];refine Aj [] [] I7 (λ_=>Oc (Fk n me) 2) ?_;rintro e cs F1 _ ⟨⟨hb,rfl⟩|⟨hb,rfl⟩,rfl⟩;rotate_left
 ·rw[hb,By] at hV;rw[hV];refine Rb [2,3] Ri (Df func132 tqK I) (Df func152 tqK I) I tqS (λρ=>XV _ _) I (Fg ?_);exact tqE
 rw[hb,Ci] at hV;refine tqc I5 (λ_=>hWr) (hF0:=by simp[Bs]) ?_;have hgt:L3 s me x=bif x.hs.any wrH&& !((Hk wrH x.hs).site.tdiv s == me) then some ((Hk wrH x.hs).site.tdiv s) else none:=I
 have hw:(λy:Hd=>y.mode == 5)=wrH:=I;rw[hw];generalize Hk wrH x.hs=y at hSi hgt;generalize x.hs.any wrH=b at hgt;refine tqc I5 (λ_=>Ah9 n l s y.site) ?_;rw[hSi];refine En func157 ntmps157 ?_;intro w3 A3 M3 N3 hN3;refine Aj [] [] I7 (λ_=>Oc true 0) ?_;rintro e cs F1 _ ⟨⟨_,rfl⟩|⟨hc,rfl⟩,rfl⟩;rotate_left
 ·cases hc
 refine⟨I,?_⟩;cases b
 ·rw[Hb,By] at hgt;rw[hgt] at hV;rw[hV];refine Lm O3 (Df func132 tqK I) (Fg ?_);exact tqE
 rw[C8] at hgt;refine A7 (λg1=>?_) λg1=>?_
 ·rw[g1] at hgt;rw[hgt] at hV;rw[hV];refine Lm O3 (Df func132 tqK I) (Fg ?_);exact tqE
 ·rw[g1] at hgt;rw[hgt] at hV;rw[hV];refine Lm O3 (Df func132 tqK I) (Fg ?_);exact tqE
section
variable {X:Fx} {T:TE} {L:LE} {n:Nat} {F:List Fact} {D:DF} {K:KK} {k:KS} {o:Oper}
theorem Afz {t e:TypeId} {x y z:Operand} {sz b off m c i:Nat} {ki kj:IntKind} {p q:Int} (hp:p=(i:Int)) (hq:q=(i:Int)) (him:i<=m) (hmc:m<=c) (ho:o.op=.slice t x none (some y) (some z)) (hel:Ah X.tab.el t=some (e,sz)) (hx:evS T x=some (.o (.v (.slice (some ⟨b,off,none⟩) m c)))) (hy:evS T y=some (.o (.v (.int ki p)))) (hz:evS T z=some (.o (.v (.int kj q)))):
  Yd X o T L F (.o (.v (.slice (some ⟨b,off,none⟩) i i))):=by
 subst hp;subst hq;refine⟨by simp[Cw,ho],λA ρ a w h0=>?_⟩;have e1:=h0.ev hx;have e2:=h0.ev hy;have e3:=h0.ev hz;simp only[TV.den,SV.den] at e1 e2 e3;obtain⟨ht,i',hi,his⟩:=Jg (X.ok.el _ _ hel);have h4:=V7 ht;have h5:X.P.elem t=e:=by unfold Program.elem;rw[ht]
 have hr:(Instr.slice t (.slice (some ⟨b,off,none⟩) m c) none (some (.int ki i)) (some (.int kj i))).run X.P w=.ok (.slice (some ⟨b,off,none⟩) i i) w:=by
  have g1:(0:Int)<=i/\(i:Int)<=(c:Int):=by omega
  have g2:(0:Int)<=i/\(i:Int)<=(i:Int):=by omega
  simp only[Instr.slice,Ba,At ht,An];simp[Instr.sliceBounds,Instr.sliceBound,asIntOf,g1.2,sizeOf,typeInfo,hi,H5]
 simp only[execOp,ho,Kh,Gf,e1,e2,e3,Ba,Ln (h:=h4),hr,An,Bh,TV.den,SV.den]
def Aoy (tbl:List (Nat×(Value->Prop))) (j:Nat) (v:Value):Prop:=match Ah tbl j with|some p=>p v|none=>True
def Ao1 (tbl:List (Nat×(Value->List Fact))) (j:Nat) (v:Value):List Fact:=match Ah tbl j with|some p=>p v|none=>[]
structure LitW where
 ops:List Oper
 T0:TE
 L0:LE
 nm:Nat
 F0:List Fact
 D:DF
 pt:List (Nat×(Value->Prop))
 st:List (Nat×(Value->List Fact))
 i0:Nat
 ins:List (Nat×Int×Nat)
 eqs:List Nat
def LitW.pv (W:LitW):Nat->Value->Prop:=Aoy W.pt
def LitW.sp (W:LitW):Nat->Value->List Fact:=Ao1 W.st
theorem Rel.slots {T':TE} {a:Act} {w:World} (h:Rel X T L n F D a w) (hs:∀ρ t x,Ah T' t=some x->∃y,Ah T t=some y/\y.den ρ=x.den ρ):Rel X T' L n F D a w:=by
 obtain⟨hkb,ρ0,A,h0⟩:=h;refine⟨hkb,ρ0,A,λρ hρ=>?_⟩;have h1:=h0 ρ hρ;refine⟨⟨λt x hx=>?_,h1.lo,h1.a3⟩,h1.sz,h1.df,h1.kp,h1.nw,h1.ds,h1.a1,h1.a2,h1.mb⟩;obtain⟨y,hy,e⟩:=hs ρ t x hx;rw[<-e];exact h1.tm t y hy
end
theorem MK (a b:Int):Cm prog 242 [.int .i64 a,.int .i64 b] [] [] (Bd (.bool (Dt a&&Dt b&&El a b))):=by
 have h:=CI a b;refine tqm [.o (.v (.int .i64 a)),.o (.v (.int .i64 b))] func242 ntmps242 λ_ _=>?_;refine tqc I5 (λ_=>h) ?_;cases h1:(Dt a&&Dt b)
 ·rw[Hb];exact tqE
 ·rw[C8];cases El a b
  ·exact tqE
  ·exact tqE
theorem Alp (h:D5 q=true) {x y:Wt} (hx:q[i]? =some x) (hy:q[j]? =some y):(Dt x.mode&&Dt y.mode&&El x.mode y.mode)=El x.mode y.mode:=by
 have h1:=(Ft.1 h).2.1 x (Av hx);have h2:=(Ft.1 h).2.1 y (Av hy);simp only[wtB,Ad,Aq] at h1 h2;have e1:Dt x.mode=true:=by simp only[Dt,Ad,Aq];omega
 have e2:Dt y.mode=true:=by simp only[Dt,Ad,Aq];omega
 rw[e1,e2];rfl
def Un (q:List Wt) (k:Nat) (m:Int):List Wt:=(q.take k).map (M6 m)++q.drop k
theorem Ahd (q:List Wt) (k:Nat) (m:Int):(Un q k m).length=q.length:=by
 unfold Un;rw[Az,Cr,Am,Bn];omega
theorem Akq {k:Nat} {m:Int} {x:Wt} (hx:q[i]? =some x) (hk:k<=i):(Un q k m)[i]? =some x:=by
 have hi:=(Aa.1 hx).1;unfold Un;rw[Dp (by rw[Cr,Am];omega),Cr,Am,E3,show k+(i- min k q.length)=i by omega,hx]
theorem PA {k:Nat} {m:Int} {x:Wt} (hx:q[k]? =some x):Un q (k+1) m=(Un q k m).set k (M6 m x):=by
 have hk:=(Aa.1 hx).1;unfold Un;rw[Dl,hx,D6,Cp];have h2:q.drop k=x::q.drop (k+1):=by rw[H7 hk,(Aa.1 hx).2]
 rw[h2,Pi (h:=by rw[Cr,Am];omega),Cr,Am,C1 tqO,Le];rfl
theorem TI {m:Int} (hi:i<q.length):(Un q i m).eraseIdx i=F9 q i m:=by
 unfold Un F9;rw[List.eraseIdx_append_of_length_le (by rw[Cr,Am];omega),Cr,Am,C1 tqO,Le,List.eraseIdx_zero,List.tail_drop]
theorem PB {m:Int} {x:Wt} (h:El x.mode m=true):M6 m x=x:=by unfold M6;rw[h];rfl
theorem PC {m:Int} {x:Wt} (h:El x.mode m=false):M6 m x= {x with age:=min (x.age+1) 64}:=by
 unfold M6;rw[h,By,Int.min_def]
def wt0:Wt:=⟨0,0,0,0,0⟩
def DD (ki:IntKind) (q:List Wt) (z:Int):Gx:=λe _ F1=>
 if D5 q=false then e=.returned (.tuple #[.slice none 0 0,.agg (wtL wt0).toArray,.int ki 2])/\F1=[]
 else if decide (0<=z/\z<q.length)=false then e=.returned (.tuple #[.slice none 0 0,.agg (wtL wt0).toArray,.int ki 4])/\F1=[]
 else ∃x a c,q[z.toNat]? =some x/\e=.returned (.tuple #[.slice a (F9 q z.toNat x.mode).length c,.agg (wtL x).toArray,.int ki 0])/\F1=[slF wtL 5 (.slice a (F9 q z.toNat x.mode).length c) (F9 q z.toNat x.mode)]
theorem XJ (a:Option Addr) (cap:Nat) (q:List Wt) (z:Int) (hl:q.length<=1000000):Cm prog 162 [.slice a q.length cap,.int .i64 z] [] [slF wtL 5 (.slice a q.length cap) q] (DD .i64 q z):=by
 refine tqm [.o (.v (.slice a q.length cap)),.o (.v (.int .i64 z))] func162 ntmps162 λ_ _=>?_;refine tqc I5 (λ_=>Q0 a cap q) ?_;unfold DD;cases hW:D5 q
 ·exact Al [] I2 λ_=>by rw[Bi I];exact⟨I,I⟩
 refine Ai (λh1=>?_) λh1=>?_
 ·exact Al [] I2 λ_=>by rw[Ar tqS,Bi (by simp;omega)];exact⟨I,I⟩
 refine Ai (λh2=>?_) λh2=>?_
 ·exact Al [] I2 λ_=>by rw[Ar tqS,Bi (by simp;omega)];exact⟨I,I⟩
 obtain⟨i,rfl⟩:∃i:Nat,z=i:=⟨z.toNat,tqO⟩;have hi:i<q.length:=by omega
 obtain⟨x,hx⟩:=A9 (xs:=q) (k:=i) (h:=hi);have hout:∀e F1,(∃x a c,q[i]? =some x/\e=Ending.returned (.tuple #[.slice a (F9 q i x.mode).length c,.agg (wtL x).toArray,.int .i64 0])/\F1=[slF wtL 5 (.slice a (F9 q i x.mode).length c) (F9 q i x.mode)])->(if true=false then e=Ending.returned (.tuple #[.slice none 0 0,.agg (wtL wt0).toArray,.int .i64 2])/\F1=[] else if decide (0<=(i:Int)/\(i:Int)<q.length)=false then e=.returned (.tuple #[.slice none 0 0,.agg (wtL wt0).toArray,.int .i64 4])/\F1=[] else ∃x a c,q[(i:Int).toNat]? =some x/\e=.returned (.tuple #[.slice a (F9 q (i:Int).toNat x.mode).length c,.agg (wtL x).toArray,.int .i64 0])/\F1=[slF wtL 5 (.slice a (F9 q (i:Int).toNat x.mode).length c) (F9 q (i:Int).toNat x.mode)]):=λe F1 h=>by rw[Ar tqS,Ar (by simp;omega),Ej];exact h
 refine Ik I5 (λ_=>I) (Vc a cap q tqO) ?_;intro a1 c1;refine Dk (slF wtL 5 (.slice a q.length cap) q) (B1 hx) ?_;rintro ⟨b,off,rfl⟩;refine W7 1 I tqO ?_;rintro g rfl;refine Aaz 1 I tqO λhc1=>?_;refine B8 (Afz (i:=i) I I tqO hc1 I I I I I) ?_;refine Br (γ:=Nat) (λk=>k<=i) (λk=>[(31,.o (.v (.int .i64 k)))]) (λk=>[(1,.own (.slice (some ⟨g,0,none⟩) q.length c1) 167 5 q.length ((Un q k x.mode).flatMap wtL))]) (λ_=>[]) (λk=>i- k) 0 (Ax _) Ac ?_;intro k hk;have hol:=Ahd q k x.mode;refine Ai (λh3=>?_) λh3=>?_
 ·obtain⟨y,hy⟩:=A9 (xs:=q) (k:=k);have hoy:=Akq (m:=x.mode) hy (Ak k);have hcell:∀(j:Nat) (u:Value),(wtL y)[j]? =some u->((Un q k x.mode).flatMap wtL)[k*5+j]? =some u:=λj u hu=>by
   have:=CU Ez hoy hu [];rwa[Bu] at this
  refine Ao [4,10] (tqs 0 4<| tqs 5 5<| .op 4<| .op 10<| .op 11 .z) [] [] [] [slF wtL 5 (.slice (some ⟨b,off,none⟩) q.length cap) q] λ_=>?_;refine⟨_,Bb (i:=k),?_⟩;refine⟨_,Bb (i:=i),?_⟩;refine⟨_,Ce (slF wtL 5 (.slice (some ⟨b,off,none⟩) q.length cap) q) (Eg hx (j:=2) I),?_⟩;refine EE 1 I I I I tqO (u:=.o (.v (.int .i64 y.mode))) (by rw[Bl];simp only[Pf,Cq,hcell 2 _ I];rfl) ?_;refine tqQ<|tqc I5 (λ_=>MK y.mode x.mode) ?_;refine tqQ ?_;rw[Alp hW hy hx];cases hf:El y.mode x.mode
  ·refine Au (Bb (i:=k)) ?_;refine EE 1 I I I I tqO (u:=.o (.v (.int .i64 y.age))) (by rw[Bl];simp only[Pf,Cq,hcell 4 _ I];rfl) ?_;have hya:0<=y.age/\y.age<=64:=by
    have:=(Ft.1 hW).2.1 y (Av hy);simp only[wtB,Ad,Aq] at this;omega
   refine Af (z:=y.age+1) ?_;refine YF I I I I I ?_;refine Au (Bb (i:=k)) ?_;refine Yg 1 (xs:=[.int .i64 (min (y.age+1) 64)]) (cells':=(Un q (k+1) x.mode).flatMap wtL) I I I I I I I tqO I (by rw[F8 Ez,hol];simp;omega) (by simp[Value.oneCell']) ?_ ?_
   ·rw[Bl];have:=BO (x':=M6 x.mode y) (j:=4) (ys:=[.int .i64 (min (y.age+1) 64)]) Ez hoy tqS (by rw[PC hf];rfl) [];rw[Bu,Bu] at this;rw[PA hy];exact this
   refine Af (z:=(k+1:Nat)) ?_;exact⟨k+1,tqO,tqP,Ac⟩
  ·refine Af (z:=(k+1:Nat)) ?_;refine⟨k+1,tqO,tqP,?_⟩;have e:Un q (k+1) x.mode=Un q k x.mode:=by rw[PA hy,PB hf,JA hoy]
   simp only[e];exact Ac
 obtain rfl:k=i:=by omega
 have hd:=RP (Un q k x.mode) k tqO tqO;have hgl:(F9 q k x.mode).length=q.length- 1:=by rw[<-TI hi,U5];simp[hol,hi]
 rw[hol,TI hi,<-hgl] at hd;refine Ao [4,10] (tqs 0 4<| tqs 5 4<| .op 4<| .op 9<|.op 10<| .op 11 .z) [] [] [] [slF wtL 5 (.slice (some ⟨b,off,none⟩) q.length cap) q] λ_=>?_;refine⟨_,Cb (z:=(k+1:Nat)) (ho:=I) (hx:=I) (hy:=I) (hr:=I) (hz:=by rw[Ey]<;>omega),?_⟩;refine⟨_,Bb (i:=k),?_⟩;refine⟨_,Cu (vs:=wtL x) (slF wtL 5 (.slice (some ⟨b,off,none⟩) q.length cap) q) (Du hx),?_⟩;refine Nr (args:=λ_ v=>[v,.int .i64 (k:Int),.int .i64 (k+1:Nat)]) 1 [] I I I I I I I (λ_=>I) I I (λ_=>hd) tqS ?_;intro a2 c2;refine tqQ<|tqQ<|Dj (D8 (j:=1) (v:=.slice a2 (F9 q k x.mode).length c2) (m:=(F9 q k x.mode).length) (enc:=wtL) (xs:=F9 q k x.mode) (.inl I) Ez I I) ?_;exact Al [slF wtL 5 (.slice a2 (F9 q k x.mode).length c2) (F9 q k x.mode)] I2 λ_=>hout _ _ ⟨x,a2,c2,hx,I,I⟩
def YR (a b:Nat) (l:List Wu) (junk:List Value):Ku:=λr Ls F1=>∃m,Sw a b l m/\r=.inl (.t [])/\Ls=[.r (wuR m junk) 335]/\F1=[]
theorem Abm (c:Int) (l:List Wu) (junk:List Value) (cap a b:Nat) (hl:l.length<=1000000) (hab:a<b) (hbl:b<=l.length):Cx prog 343 [.o (.s 0 0 l.length cap),.o (.v (.int .i64 a)),.o (.v (.int .i64 b)),.o (.v (He c))] [.r (wuR l junk) 335] [] (YR a b l junk):=by
 unfold He;refine tqx func343 ntmps343 ?_;intro ρ w0 A0;refine Af (z:=((b- 1:Nat):Int)) ?_;refine Br (γ:=Nat×Nat×List Wu) (λg=>a<=g.1/\g.2.1<b/\g.1<=b/\Sw a b l g.2.2) (λg=>[(8,.o (.v (.int .i64 g.1))),(9,.o (.v (.int .i64 g.2.1)))]) (λg=>[(0,D9 (wuR g.2.2 junk) 335)]) (λ_=>[]) (λg=>b- g.1) (a,b- 1,l) ⟨Ak _,tqP,tqP,.refl _⟩ Ac ?_;rintro ⟨i,j,m⟩ ⟨hi,hj,hib,hsw⟩;dsimp only at hi hj hib hsw⊢;have hml:=hsw.len;refine Ai (λh1=>?_) λh1=>?_;rotate_left
 ·exact Dg [0] (.t []) [.r (wuR m junk) 335] [] ⟨I,trivial⟩ ⟨m,hsw,I,I,I⟩
 obtain⟨x,hx⟩:=A9 (xs:=m) (k:=i);obtain⟨y,hy⟩:=A9 (xs:=m) (k:=j);refine Ao [13,15] (tqs 0 15<| .op 15 .z) [0] [(13,0),(15,0)] [] [] λ_=>?_;refine⟨_,Ay (i:=j),?_⟩;refine⟨_,Do hy,?_⟩;refine⟨_,Ay (i:=i),?_⟩;refine⟨_,Do hx,?_⟩;refine⟨_,Ay (i:=i),?_⟩;refine E8 hx ?_;refine tqQ<|⟨_,Ay (i:=j),?_⟩;refine E8 (Lh hx hy) ?_;refine tqQ ?_;rw[J8 hx hy];refine Af (z:=((i+1:Nat):Int)) ?_;refine Af (z:=((j- 1:Nat):Int)) ?_;exact⟨(i+1,j- 1,swp m i j),⟨tqP,tqP,tqP,.step hsw tqO tqO tqO tqO tqO⟩,tqP,Ac⟩
def Amx (a b:Nat) (z:Nat) (hs:List Value):Ku:=λr Ls F1=>∃a' b' z':Nat,(a'=a/\b'=b\/a'=b/\b'=a)/\z'<=z+1/\r=.inl (.t [.v (.int .i64 a'),.v (.int .i64 b')])/\Ls=[.r hs 335,.c [.v (.int .i64 z')] 3]/\F1=[]
theorem IW (c:Int) (l:List Wu) (junk:List Value) (cap a b z:Nat) (ha:a<l.length) (hb:b<l.length) (hz:z<=1000):Cx prog 360 [.o (.s 0 0 l.length cap),.o (.v (.int .i64 a)),.o (.v (.int .i64 b)),.o (.p 1 0),.o (.v (He c))] [.r (wuR l junk) 335,.c [.v (.int .i64 z)] 3] [] (Amx a b z (wuR l junk)):=by
 unfold He;refine tqx func360 ntmps360 ?_;intro ρ w0 A0;obtain⟨x,hx⟩:=A9 (xs:=l) (k:=a) (h:=ha);obtain⟨y,hy⟩:=A9 (xs:=l) (k:=b) (h:=hb);refine Ao [9] (tqs 0 10<| .op 10 .z) [0,1] [] [] [] λ_=>?_;refine⟨_,Ay (i:=b),?_⟩;refine⟨_,Do hy,?_⟩;refine⟨_,Ay (i:=a),?_⟩;refine⟨_,Do hx,?_⟩;refine tqc I5 (λ_=>Hx c y x) ?_;refine tqQ<|Ai (λh3=>?_) λh3=>?_
 ·refine Af (z:=((z+1:Nat):Int)) ?_;exact Dg [0,1] (.t [.v (.int .i64 b),.v (.int .i64 a)]) [.r (wuR l junk) 335,.c [.v (.int .i64 ((z+1:Nat):Int))] 3] [] ⟨I,I,trivial⟩ ⟨b,a,z+1,.inr ⟨I,I⟩,Ak _,I,I,I⟩
 ·exact Dg [0,1] (.t [.v (.int .i64 a),.v (.int .i64 b)]) [.r (wuR l junk) 335,.c [.v (.int .i64 z)] 3] [] ⟨I,I,trivial⟩ ⟨a,b,z,.inl ⟨I,I⟩,tqO,I,I,I⟩
def V9 (n:Nat):Nat:=if n=0 then 0 else Nat.log2 n+1
theorem VX:((List.range 301).all λn=>Ck.ev prog false (λ_=>false) 0 Ck.kn0 10000 (.fn 327 [.int .u64 n]) Ck.noF ⟨.lf,0⟩ λe _ _=>Ck.isV (.int .i64 (V9 n)) e)=true:=tqK
theorem OB (n:Nat) (h:n<=300):Cm prog 327 [.int .u64 n] [] [] (Bd (.int .i64 (V9 n))):=
 Ck.cm_of_evA (G0:=λ_=>⟨0,0,0,0,0⟩) (Ck.ev_sound tqK Ck.kn0S (λg h=>by cases h) _) (λG _=>by rw[Bj,Ck.den_plain G _ I];rfl) I (A6.1 VX n (Hc.2 tqO))
theorem WI:((List.range 301).all λn=>Ck.ev prog false (λ_=>false) 0 Ck.kn0 10000 (.fn 355 [.int .i64 n]) Ck.noF ⟨.lf,0⟩ λe _ _=>Ck.isV (.int .u64 ((2 ^ V9 n:Nat):Int)) e)=true:=tqK
theorem Adz (n:Nat) (h:n<=300):Cm prog 355 [.int .i64 n] [] [] (Bd (.int .u64 ((2 ^ V9 n:Nat):Int))):=
 Ck.cm_of_evA (G0:=λ_=>⟨0,0,0,0,0⟩) (Ck.ev_sound tqK Ck.kn0S (λg h=>by cases h) _) (λG _=>by rw[Bj,Ck.den_plain G _ I];rfl) I (A6.1 WI n (Hc.2 tqO))
theorem TC:((List.range 301).all λn=>Nat.ble 1 (2 ^ V9 n)&&Nat.ble (2 ^ V9 n) (bif Nat.beq n 0 then 1 else 2*n))=true:=by decide
theorem YM (P:Program) (t:TypeId) (z n:Int) (hn:0<=n:=by decide):∃r:Int,∀w,(binOp .shl t (.int .u64 z) (.int .u64 n)).run P w=.ok (.int .u64 r) w:=
 ⟨_,λw=>by show (Op.shift .shl .u64 z .u64 n).run P w=_;unfold Op.shift;rw[Ar tqO];rfl⟩
theorem Alg (P:Program) (t:TypeId) (z n:Int) (hn:0<=n:=by decide):∃r:Int,∀w,(binOp .shr t (.int .u64 z) (.int .u64 n)).run P w=.ok (.int .u64 r) w:=
 ⟨_,λw=>by show (Op.shift .shr .u64 z .u64 n).run P w=_;unfold Op.shift;rw[Ar tqO];rfl⟩
theorem NX (P:Program) (t:TypeId) (z n:Int):∃r:Int,∀w,(binOp .xor t (.int .u64 z) (.int .u64 n)).run P w=.ok (.int .u64 r) w:=⟨_,λ_=>I⟩
theorem Afy (b:Nat) (z:Int):Cm prog 356 [.pointer (some ⟨b,0,none⟩)] [(b,[.int .u64 z],435)] [] (λe cs F1=>∃z':Int,e=.returned (.int .u64 z')/\cs=[[.int .u64 z']]/\F1=[]):=by
 refine tqm [.o (.p 0 0)] func356 ntmps356 (hargs:=λρ h=>by simp[TV.den,SV.den,h 0 b I]) λ_ _=>?_;refine Ao [9] (tqs 0 9<| .op 9 .z) [0] [(9,0)] [] [] λ_=>?_;obtain⟨s1,hs1⟩:=YM prog 435 z 13;obtain⟨z1,hx1⟩:=NX prog 435 z s1;refine⟨_,Pb (u:=.int .u64 z) (v:=.int .u64 13) (r:=.int .u64 s1) I I I (λ_=>I) (λ_=>I) (λ_=>I) hs1,?_⟩;refine⟨_,Pb (u:=.int .u64 z) (v:=.int .u64 s1) (r:=.int .u64 z1) I I I (λ_=>I) (λ_=>I) (λ_=>I) hx1,?_⟩;refine tqQ<|Ao [9] (tqs 0 9<| .op 9 .z) [0] [(9,0)] [] [] λ_=>?_;obtain⟨s2,hs2⟩:=Alg prog 435 z1 7;obtain⟨z2,hx2⟩:=NX prog 435 z1 s2;refine⟨_,Pb (u:=.int .u64 z1) (v:=.int .u64 7) (r:=.int .u64 s2) I I I (λ_=>I) (λ_=>I) (λ_=>I) hs2,?_⟩;refine⟨_,Pb (u:=.int .u64 z1) (v:=.int .u64 s2) (r:=.int .u64 z2) I I I (λ_=>I) (λ_=>I) (λ_=>I) hx2,?_⟩;refine tqQ<|Ao [9] (tqs 0 9<| .op 9 .z) [0] [(9,0)] [] [] λ_=>?_;obtain⟨s3,hs3⟩:=YM prog 435 z2 17;obtain⟨z3,hx3⟩:=NX prog 435 z2 s3;refine⟨_,Pb (u:=.int .u64 z2) (v:=.int .u64 17) (r:=.int .u64 s3) I I I (λ_=>I) (λ_=>I) (λ_=>I) hs3,?_⟩;refine⟨_,Pb (u:=.int .u64 z2) (v:=.int .u64 s3) (r:=.int .u64 z3) I I I (λ_=>I) (λ_=>I) (λ_=>I) hx3,?_⟩;exact tqQ<|Al [] I2 λ_=>⟨z3,I,I,I⟩
theorem MN {r:Int} (h1:0<=r) (h2:r<18446744073709551616):IntKind.u64.wrap r=r:=by
 simp only[IntKind.wrap,IntKind.bits,IntKind.signed,Hb,Hu,Mu];omega
theorem Aji (P:Program) (t:TypeId) (z:Int) (n:Nat) (hn:n<18446744073709551616):∃r:Nat,r<=n/\∀w,(binOp .and t (.int .u64 z) (.int .u64 (n:Int))).run P w=.ok (.int .u64 (r:Int)) w:=by
 have hle:(BitVec.ofInt 64 z&&& BitVec.ofInt 64 (n:Int)).toNat<=n:=by
  rw[BitVec.toNat_and];refine Bf Nat.and_le_right ?_;rw[BitVec.toNat_ofInt];omega
 refine⟨(BitVec.ofInt 64 z&&& BitVec.ofInt 64 (n:Int)).toNat,hle,λw=>?_⟩;have e:IntKind.u64.wrap (((BitVec.ofInt 64 z&&& BitVec.ofInt 64 (n:Int)).toNat:Nat):Int)=(((BitVec.ofInt 64 z&&& BitVec.ofInt 64 (n:Int)).toNat:Nat):Int):=MN tqO tqO;show (pure (.int .u64 (IntKind.u64.wrap (((BitVec.ofInt 64 z&&& BitVec.ofInt 64 (n:Int)).toNat:Nat):Int))):Sem Value).run P w=_
 rw[e];rfl
theorem Am2 {n:Nat} (h:n<=300) (h0:1<=n):1<=2 ^ V9 n/\2 ^ V9 n<=2*n:=by
 have:=A6.1 TC n (Hc.2 tqO);have hb:Nat.beq n 0=false:=by
  rw[Bo];intro e;have:=Bq e;omega
 rw[Ad,hb,G6,G6] at this;exact this
theorem Aga (c:Int) (l:List Wu) (junk:List Value) (cap a b:Nat) (hl:l.length<=300) (hab:a<=b) (hbl:b<=l.length):Cx prog 341 [.o (.s 0 0 l.length cap),.o (.v (.int .i64 a)),.o (.v (.int .i64 b)),.o (.v (He c))] [.r (wuR l junk) 335] [] (YR a b l junk):=by
 unfold He;refine tqx func341 ntmps341 ?_;intro ρ w0 A0;obtain⟨n,hn⟩:∃n,n=b- a:=⟨_,I⟩;refine Af (z:=((n:Nat):Int)) ?_;refine Ai (λh8=>?_) λh8=>?_;rotate_left
 ·exact Dg [0] (.t []) [.r (wuR l junk) 335] [] ⟨I,trivial⟩ ⟨l,.refl _,I,I,I⟩
 refine B8 (S2 (ki:=.i64) (kj:=.u64) (r:=((n:Nat):Int)) tqK tqK (MN tqO tqO) I I) ?_;refine tqc I5 (λ_=>Adz n tqO) ?_;have hpw:=Am2 (n:=n) tqO tqO;obtain⟨M,hM⟩:∃M,M=2 ^ V9 n:=⟨_,I⟩;rw[<-hM] at hpw⊢;have hd:=BJ (q:=n / 4) (z:=1000000) tqO (Ak _);obtain⟨q,hq⟩:∃q,q=n / 4:=⟨_,I⟩;have hq4:4*q<=n/\n<4*q+4:=by omega
 have hdv:((n:Int).tdiv (4:Int))=(q:Int):=by rw[hq];exact Yu n 4
 rw[<-hq] at hd;refine B8 (L5 (r:=(q:Int)) tqD hd.1 hd.2 I I I (Fb some hdv)) ?_;refine Af (z:=((2*q:Nat):Int)) ?_;refine Af (z:=((a+2*q:Nat):Int)) ?_;refine Af (z:=((a+2*q- 1:Nat):Int)) ?_;refine Br (γ:=Nat×Int×List Wu) (λg=>a<=g.1/\g.1<=a+2*q+2/\Sw a b l g.2.2) (λg=>[(11,.o (.v (.int .i64 g.1)))]) (λg=>[(0,D9 (wuR g.2.2 junk) 335),(1,.c [.v (.int .u64 g.2.1)] 435)]) (λ_=>[]) (λg=>a+2*q+2- g.1) (a+2*q- 1,(n:Int),l) ⟨tqP,tqP,.refl _⟩ Ac ?_;rintro ⟨i,z,m⟩ ⟨hi1,hi2,hsw⟩;dsimp only at hi1 hi2 hsw⊢;have hml:=hsw.len;refine B8 (L5 (r:=(q:Int)) tqD hd.1 hd.2 I I I (Fb some hdv)) ?_;refine Af (z:=((2*q:Nat):Int)) ?_;refine Af (z:=((a+2*q:Nat):Int)) ?_;refine Af (z:=((a+2*q+1:Nat):Int)) ?_;refine Ai (λh1=>?_) λh1=>?_;rotate_left
 ·exact Dg [0] (.t []) [.r (wuR m junk) 335] [] ⟨I,trivial⟩ ⟨m,hsw,I,I,I⟩
 refine Aj [] [1] I7 (λρ=>Afy (ρ 1) z) ?_;rintro e cs F1 _ ⟨z',rfl,rfl,rfl⟩;refine Af (z:=((M- 1:Nat):Int)) (hz:=by rw[MN]<;>omega) (ho:=I) (hx:=I) (hy:=I) (hr:=I) ?_;obtain⟨r,hr,hrun⟩:=Aji prog 157 z' (M- 1) tqO;refine B8 (Pb (u:=.int .u64 z') (v:=.int .u64 ((M- 1:Nat):Int)) (r:=.int .u64 (r:Int)) I I I (λ_=>I) (λ_=>I) (λ_=>I) hrun) ?_;refine B8 (S2 (ki:=.u64) (kj:=.i64) (r:=((r:Nat):Int)) tqK tqK (Ey tqO tqO) I I) ?_;refine Ai (λh2=>?_) λh2=>?_
 ·refine Af (z:=((r- n:Nat):Int)) ?_;obtain⟨x,hx⟩:=A9 (xs:=m) (k:=i);obtain⟨y,hy⟩:=A9 (xs:=m) (k:=a+(r- n));refine Ao [17,19] (tqs 0 19<| .op 19 .z) [0,1] [(17,0),(19,0)] [] [] λ_=>?_;refine⟨_,Cb (z:=((a+(r- n):Nat):Int)),?_⟩;refine⟨_,Cb (z:=((a+(r- n):Nat):Int)),?_⟩;refine⟨_,Ay (i:=a+(r- n)),?_⟩;refine⟨_,Do hy,?_⟩;refine⟨_,Ay (i:=i),?_⟩;refine⟨_,Do hx,?_⟩;refine⟨_,Ay (i:=i),?_⟩;refine E8 hx ?_;refine tqQ<|⟨_,Ay (i:=a+(r- n)),?_⟩;refine E8 (Lh hx hy) ?_;refine tqQ ?_;rw[J8 hx hy];refine Af (z:=((i+1:Nat):Int)) ?_;exact⟨(i+1,z',swp m i (a+(r- n))),⟨tqP,tqP,.step hsw tqO tqO tqO tqO tqO⟩,tqP,Ac⟩
 ·obtain⟨x,hx⟩:=A9 (xs:=m) (k:=i);obtain⟨y,hy⟩:=A9 (xs:=m) (k:=a+r);refine Ao [17,19] (tqs 0 19<| .op 19 .z) [0,1] [(17,0),(19,0)] [] [] λ_=>?_;refine⟨_,Cb (z:=((a+r:Nat):Int)),?_⟩;refine⟨_,Cb (z:=((a+r:Nat):Int)),?_⟩;refine⟨_,Ay (i:=a+r),?_⟩;refine⟨_,Do hy,?_⟩;refine⟨_,Ay (i:=i),?_⟩;refine⟨_,Do hx,?_⟩;refine⟨_,Ay (i:=i),?_⟩;refine E8 hx ?_;refine tqQ<|⟨_,Ay (i:=a+r),?_⟩;refine E8 (Lh hx hy) ?_;refine tqQ ?_;rw[J8 hx hy];refine Af (z:=((i+1:Nat):Int)) ?_;exact⟨(i+1,z',swp m i (a+r)),⟨tqP,tqP,.step hsw tqO tqO tqO tqO tqO⟩,tqP,Ac⟩
section
variable {X:Fx} {c:Code} {T:TE} {L:LE} {n:Nat} {F:List Fact} {D:DF} {K:KK}
theorem O4 {γ:Type} (id:Nat) (p:γ->Prop) (PT:γ->TE) (PL:γ->LE) (h1:CJs X c T L n F D λe T' L' n' F' D'=>match e with
  | .exit i=>bif Nat.beq i id then ∃g,p g/\Wk X T' L' n' F' D' ⟨PT g++T,PL g++L,n,F,D⟩ else K (.exit i) T' L' n' F' D'
  |e=>K e T' L' n' F' D') (h2:∀g,p g->K (.exit id) (PT g++T) (PL g++L) n F D):CJs X c T L n F D K:=by
 intro Q hQ a w hr;refine h1 Q ?_ a w hr;intro e T' L' n' F' D' hK a' w' hr';cases e with
 |exit i=>
  dsimp only at hK;rw[Ew] at hK;split at hK
  ·rename_i hi;obtain⟨g,hg,hw⟩:=hK;rw[Bq hi];exact hQ _ _ _ _ _ _ (h2 g hg) a' w' (hw a' w' hr')
  ·exact hQ _ _ _ _ _ _ hK a' w' hr'
 |_=>exact hQ _ _ _ _ _ _ hK a' w' hr'
end
def PtR (lt:Wu->Wu->Bool) (a b i j:Nat) (x:Wu) (m:List Wu):Prop:=m[a]? =some x/\(∀k u,a<k->k<i->m[k]? =some u->lt u x=true)/\∀k u,j<k->k<b->m[k]? =some u->lt u x=false
variable {a b:Nat} {lt:Wu->Wu->Bool} {m:List Wu} {x:Wu}
theorem PtR.begin (h:m[a]? =some x):PtR lt a b (a+1) (b- 1) x m:=⟨h,λk u h1 h2=>by omega,λk u h1 h2=>by omega⟩
variable {y:Wu}
theorem PtR.up (h:PtR lt a b i j x m) (hy:m[i]? =some y) (ht:lt y x=true):PtR lt a b (i+1) j x m:=⟨h.1,λk u h1 h2 h3=>by
 by_cases hk:k=i
 ·subst hk;rw[hy] at h3;cases h3;exact ht
 ·exact h.2.1 k u h1 tqO h3,h.2.2⟩
theorem PtR.down (h:PtR lt a b i j x m) (hj:1<=j) (hy:m[j]? =some y) (ht:lt y x=false):PtR lt a b i (j- 1) x m:=⟨h.1,h.2.1,λk u h1 h2 h3=>by
 by_cases hk:k=j
 ·subst hk;rw[hy] at h3;cases h3;exact ht
 ·exact h.2.2 k u tqO h2 h3⟩
theorem PtR.swap {z:Wu} (h:PtR lt a b i j x m) (hai:a<i) (hij:i<j) (hj:j<m.length) (hy:m[i]? =some y) (hz:m[j]? =some z) (h1:lt y x=false) (h2:lt z x=true):PtR lt a b (i+1) (j- 1) x (swp m i j):=by
 refine⟨by rw[Li tqO hj,Ar tqO,Ar tqO];exact h.1,λk u k1 k2 k3=>?_,λk u k1 k2 k3=>?_⟩
 ·rw[Li tqO hj,Ar tqO] at k3;split at k3
  ·rw[hz] at k3;cases k3;exact h2
  ·exact h.2.1 k u k1 tqO k3
 ·rw[Li tqO hj] at k3;split at k3
  ·rw[hy] at k3;cases k3;exact h1
  ·rw[Ar tqO] at k3;exact h.2.2 k u tqO k2 k3
def Qm (lt:Wu->Wu->Bool) (a b mid:Nat) (m:List Wu):Prop:=∃x,m[mid]? =some x/\(∀k u,a<=k->k<mid->m[k]? =some u->lt u x=true)/\∀k u,mid<k->k<b->m[k]? =some u->lt u x=false
theorem PtR.done (h:PtR lt a b (j+1) j x m) (haj:a<=j) (hj:j<m.length):Qm lt a b j (swp m j a):=by
 obtain⟨y,hy⟩:∃y,m[j]? =some y:=⟨_,A8 hj⟩;have hx:(swp m j a)[j]? =some x:=by
  rw[Li hj tqO];by_cases e:j=a
  ·rw[Bi e,e];exact h.1
  ·rw[Ar e,Bi I];exact h.1
 refine⟨x,hx,λk u k1 k2 k3=>?_,λk u k1 k2 k3=>?_⟩
 ·rw[Li hj tqO] at k3;split at k3
  ·exact h.2.1 j u tqO tqO k3
  ·rw[Ar tqO] at k3;exact h.2.1 k u tqO tqO k3
 ·rw[Li hj tqO,Ar tqO,Ar tqO] at k3;exact h.2.2 k u k1 k2 k3
def Ak2 (lt:Wu->Wu->Bool) (a b:Nat) (l:List Wu) (junk:List Value):Ku:=λr Ls F1=>∃m mid fl,Sw a b l m/\a<=mid/\mid<b/\Qm lt a b mid m/\r=.inl (.t [.v (.int .i64 ((mid:Nat):Int)),.v (.bool fl)])/\Ls=[.r (wuR m junk) 335]/\F1=[]
theorem HG (c:Int) (l:List Wu) (junk:List Value) (cap a b pv:Nat) (hl:l.length<=1000000) (hab:a+1<b) (hbl:b<=l.length) (hpa:a<=pv) (hpb:pv<b):Cx prog 346 [.o (.s 0 0 l.length cap),.o (.v (.int .i64 a)),.o (.v (.int .i64 b)),.o (.v (.int .i64 pv)),.o (.v (He c))] [.r (wuR l junk) 335] [] (Ak2 (ltW c) a b l junk):=by
 unfold He;refine tqx func346 ntmps346 ?_;intro ρ w0 A0;obtain⟨x0,hx0⟩:=A9 (xs:=l) (k:=a);obtain⟨x,hx⟩:=A9 (xs:=l) (k:=pv);refine Ao [13,15] (tqs 0 15<| .op 15 .z) [0] [(13,0),(15,0)] [] [] λ_=>?_;refine⟨_,Ay (i:=pv),?_⟩;refine⟨_,Do hx,?_⟩;refine⟨_,Ay (i:=a),?_⟩;refine⟨_,Do hx0,?_⟩;refine⟨_,Ay (i:=a),?_⟩;refine E8 hx0 ?_;refine tqQ<|⟨_,Ay (i:=pv),?_⟩;refine E8 (Lh hx0 hx) ?_;refine tqQ ?_;rw[J8 hx0 hx];obtain⟨m,hm⟩:∃m,m=swp l a pv:=⟨_,I⟩;have hsw:Sw a b l m:=by rw[hm];exact .one (Ak _) tqO hpa hpb hbl
 have hma:m[a]? =some x:=by
  rw[hm,Li tqO tqO];by_cases e:a=pv
  ·rw[Bi e,e];exact hx
  ·rw[Ar e,Bi I];exact hx
 rw[<-hm];have hml:=hsw.len;refine Af (z:=((a+1:Nat):Int)) ?_;refine Af (z:=((b- 1:Nat):Int)) ?_;obtain⟨j,hj⟩:∃j,j=b- 1:=⟨_,I⟩;rw[<-hj];refine O4 (γ:=Nat) 0 (λi=>(a+1)<=i/\i<=j+1/\PtR (ltW c) a b i j x m/\(i<=j->∀u,m[i]? =some u->ltW c u x=false)) (λi=>[(12,.o (.v (.int .i64 i)))]) (λ_=>[]) ?_ ?_
 ·refine Br (γ:=Nat) (λi=>(a+1)<=i/\i<=j+1/\PtR (ltW c) a b i j x m) (λi=>[(12,.o (.v (.int .i64 i)))]) (λ_=>[]) (λ_=>[]) (λi=>b- i) (a+1) ⟨Ak _,tqO,(hj ▸ PtR.begin hma)⟩ Ac ?_;rintro i ⟨hi1,hi2,hpt⟩;refine Ao [13] (tqs 0 15<| .op 15 .z) [0] [] [] [] λ_=>?_;refine Ai (λh1=>?_) λh1=>?_;rotate_left
  ·exact⟨i,⟨hi1,hi2,hpt,λh=>by omega⟩,Ac⟩
  obtain⟨y,hy⟩:=A9 (xs:=m) (k:=i);refine⟨_,Ay (i:=i),?_⟩;refine⟨_,Do hy,?_⟩;refine⟨_,Ay (i:=a),?_⟩;refine⟨_,Do hpt.1,?_⟩;refine tqc I5 (λ_=>Hx c y x) ?_;refine tqQ<|Ai (λh2=>?_) λh2=>?_
  ·have ht:ltW c y x=true:=by unfold ltW;exact D4 h2
   refine Af (z:=((i+1:Nat):Int)) ?_;exact⟨i+1,⟨tqO,tqO,hpt.up hy ht⟩,tqP,Ac⟩
  ·have hf:ltW c y x=false:=by unfold ltW;exact Gg h2
   exact⟨i,⟨hi1,hi2,hpt,λh u hu=>by rw[hy] at hu;cases hu;exact hf⟩,Ac⟩
 rintro i ⟨hi1,hi2,hpt,hst⟩;refine O4 (γ:=Nat) 2 (λk=>a<=k/\k<=j/\i<=k+1/\PtR (ltW c) a b i k x m/\(i<=k->∀u,m[k]? =some u->ltW c u x=true)) (λk=>[(13,.o (.v (.int .i64 k)))]) (λ_=>[]) ?_ ?_
 ·refine Br (γ:=Nat) (λk=>a<=k/\k<=j/\i<=k+1/\PtR (ltW c) a b i k x m) (λk=>[(13,.o (.v (.int .i64 k)))]) (λ_=>[]) (λ_=>[]) (λk=>k) j ⟨tqO,Ak _,hi2,hpt⟩ Ac ?_;rintro k ⟨hk0,hk1,hk2,hpt⟩;refine Ao [13] (tqs 0 16<| .op 16 .z) [0] [] [] [] λ_=>?_;refine Ai (λh1=>?_) λh1=>?_;rotate_left
  ·exact⟨k,⟨hk0,hk1,hk2,hpt,λh=>by omega⟩,Ac⟩
  obtain⟨y,hy⟩:=A9 (xs:=m) (k:=k);refine⟨_,Ay (i:=k),?_⟩;refine⟨_,Do hy,?_⟩;refine⟨_,Ay (i:=a),?_⟩;refine⟨_,Do hpt.1,?_⟩;refine tqc I5 (λ_=>Hx c y x) ?_;refine tqQ<|A7 (λh2=>?_) λh2=>?_
  ·have hf:ltW c y x=false:=by unfold ltW;simpa using h2
   refine Af (z:=((k- 1:Nat):Int)) ?_;exact⟨k- 1,⟨tqO,tqO,tqO,hpt.down tqO hy hf⟩,tqP,Ac⟩
  ·have ht:ltW c y x=true:=by unfold ltW;simpa using h2
   exact⟨k,⟨hk0,hk1,hk2,hpt,λh u hu=>by rw[hy] at hu;cases hu;exact ht⟩,Ac⟩
 rintro k ⟨hk0,hk1,hk2,hpt,hsk⟩;refine Ai (λh3=>?_) λh3=>?_
 ·obtain rfl:i=k+1:=by omega
  obtain⟨yk,hyk⟩:=A9 (xs:=m) (k:=k);refine Ao [13,15] (tqs 0 15<| .op 15 .z) [0] [(13,0),(15,0)] [] [] λ_=>?_;refine⟨_,Ay (i:=a),?_⟩;refine⟨_,Do hpt.1,?_⟩;refine⟨_,Ay (i:=k),?_⟩;refine⟨_,Do hyk,?_⟩;refine⟨_,Ay (i:=k),?_⟩;refine E8 hyk ?_;refine tqQ<|⟨_,Ay (i:=a),?_⟩;refine E8 (Lh hyk hpt.1) ?_;refine tqQ ?_;rw[J8 hyk hpt.1];exact Dg [0] (.t [.v (.int .i64 ((k:Nat):Int)),.v (.bool true)]) [.r (wuR (swp m k a) junk) 335] [] ⟨I,trivial⟩ ⟨swp m k a,k,true,.step hsw tqO tqO (Ak _) tqO tqO,tqO,tqO,hpt.done tqO tqO,I,I,I⟩
 obtain⟨yi,hyi⟩:=A9 (xs:=m) (k:=i);obtain⟨yk,hyk⟩:=A9 (xs:=m) (k:=k);have hne:i≠k:=λe=>by
  subst e;have e1:=hst tqO yi hyi;rw[hsk tqO yi hyi] at e1;cases e1
 refine Ao [13,15] (tqs 0 15<| .op 15 .z) [0] [(13,0),(15,0)] [] [] λ_=>?_;refine⟨_,Ay (i:=k),?_⟩;refine⟨_,Do hyk,?_⟩;refine⟨_,Ay (i:=i),?_⟩;refine⟨_,Do hyi,?_⟩;refine⟨_,Ay (i:=i),?_⟩;refine E8 hyi ?_;refine tqQ<|⟨_,Ay (i:=k),?_⟩;refine E8 (Lh hyi hyk) ?_;refine tqQ ?_;rw[J8 hyi hyk];refine Af (z:=((i+1:Nat):Int)) ?_;refine Af (z:=((k- 1:Nat):Int)) ?_;have hp2:=hpt.swap tqO tqO tqO hyi hyk (hst tqO yi hyi) (hsk tqO yk hyk);have hsw2:Sw a b l (swp m i k):=.step hsw tqO tqO tqO tqO tqO;refine Br (γ:=Nat×Nat×List Wu) (λg=>a+1<=g.1/\a<=g.2.1/\g.1<=g.2.1+1/\g.2.1<b/\Sw a b l g.2.2/\PtR (ltW c) a b g.1 g.2.1 x g.2.2) (λg=>[(12,.o (.v (.int .i64 g.1))),(13,.o (.v (.int .i64 g.2.1)))]) (λg=>[(0,D9 (wuR g.2.2 junk) 335)]) (λ_=>[]) (λg=>b- g.1) (i+1,k- 1,swp m i k) ⟨tqP,tqP,tqP,tqP,hsw2,hp2⟩ Ac ?_;clear hp2 hsw2 hne hst hsk hpt hma hsw hk0 hk1 hk2 hi1 hi2 h3;rintro ⟨i1,j,m⟩ ⟨hi0,hj0,hij,hjb,hsw,hq⟩;dsimp only at hi0 hj0 hij hjb hsw hq⊢;have hml:=hsw.len;refine O4 (γ:=Nat) 6 (λi=>i1<=i/\i<=j+1/\PtR (ltW c) a b i j x m/\(i<=j->∀u,m[i]? =some u->ltW c u x=false)) (λi=>[(12,.o (.v (.int .i64 i)))]) (λ_=>[]) ?_ ?_
 ·refine Br (γ:=Nat) (λi=>i1<=i/\i<=j+1/\PtR (ltW c) a b i j x m) (λi=>[(12,.o (.v (.int .i64 i)))]) (λ_=>[]) (λ_=>[]) (λi=>b- i) i1 ⟨Ak _,tqO,hq⟩ Ac ?_;rintro i ⟨hi1,hi2,hpt⟩;refine Ao [13] (tqs 0 15<| .op 15 .z) [0] [] [] [] λ_=>?_;refine Ai (λh1=>?_) λh1=>?_;rotate_left
  ·exact⟨i,⟨hi1,hi2,hpt,λh=>by omega⟩,Ac⟩
  obtain⟨y,hy⟩:=A9 (xs:=m) (k:=i);refine⟨_,Ay (i:=i),?_⟩;refine⟨_,Do hy,?_⟩;refine⟨_,Ay (i:=a),?_⟩;refine⟨_,Do hpt.1,?_⟩;refine tqc I5 (λ_=>Hx c y x) ?_;refine tqQ<|Ai (λh2=>?_) λh2=>?_
  ·have ht:ltW c y x=true:=by unfold ltW;exact D4 h2
   refine Af (z:=((i+1:Nat):Int)) ?_;exact⟨i+1,⟨tqO,tqO,hpt.up hy ht⟩,tqP,Ac⟩
  ·have hf:ltW c y x=false:=by unfold ltW;exact Gg h2
   exact⟨i,⟨hi1,hi2,hpt,λh u hu=>by rw[hy] at hu;cases hu;exact hf⟩,Ac⟩
 rintro i ⟨hi1,hi2,hpt,hst⟩;refine O4 (γ:=Nat) 8 (λk=>a<=k/\k<=j/\i<=k+1/\PtR (ltW c) a b i k x m/\(i<=k->∀u,m[k]? =some u->ltW c u x=true)) (λk=>[(13,.o (.v (.int .i64 k)))]) (λ_=>[]) ?_ ?_
 ·refine Br (γ:=Nat) (λk=>a<=k/\k<=j/\i<=k+1/\PtR (ltW c) a b i k x m) (λk=>[(13,.o (.v (.int .i64 k)))]) (λ_=>[]) (λ_=>[]) (λk=>k) j ⟨tqO,Ak _,hi2,hpt⟩ Ac ?_;rintro k ⟨hk0,hk1,hk2,hpt⟩;refine Ao [13] (tqs 0 16<| .op 16 .z) [0] [] [] [] λ_=>?_;refine Ai (λh1=>?_) λh1=>?_;rotate_left
  ·exact⟨k,⟨hk0,hk1,hk2,hpt,λh=>by omega⟩,Ac⟩
  obtain⟨y,hy⟩:=A9 (xs:=m) (k:=k);refine⟨_,Ay (i:=k),?_⟩;refine⟨_,Do hy,?_⟩;refine⟨_,Ay (i:=a),?_⟩;refine⟨_,Do hpt.1,?_⟩;refine tqc I5 (λ_=>Hx c y x) ?_;refine tqQ<|A7 (λh2=>?_) λh2=>?_
  ·have hf:ltW c y x=false:=by unfold ltW;simpa using h2
   refine Af (z:=((k- 1:Nat):Int)) ?_;exact⟨k- 1,⟨tqO,tqO,tqO,hpt.down tqO hy hf⟩,tqP,Ac⟩
  ·have ht:ltW c y x=true:=by unfold ltW;simpa using h2
   exact⟨k,⟨hk0,hk1,hk2,hpt,λh u hu=>by rw[hy] at hu;cases hu;exact ht⟩,Ac⟩
 rintro k ⟨hk0,hk1,hk2,hpt,hsk⟩;refine Ai (λh3=>?_) λh3=>?_
 ·obtain rfl:i=k+1:=by omega
  obtain⟨yk,hyk⟩:=A9 (xs:=m) (k:=k);refine Ao [13,15] (tqs 0 15<| .op 15 .z) [0] [(13,0),(15,0)] [] [] λ_=>?_;refine⟨_,Ay (i:=a),?_⟩;refine⟨_,Do hpt.1,?_⟩;refine⟨_,Ay (i:=k),?_⟩;refine⟨_,Do hyk,?_⟩;refine⟨_,Ay (i:=k),?_⟩;refine E8 hyk ?_;refine tqQ<|⟨_,Ay (i:=a),?_⟩;refine E8 (Lh hyk hpt.1) ?_;refine tqQ ?_;rw[J8 hyk hpt.1];exact Dg [0] (.t [.v (.int .i64 ((k:Nat):Int)),.v (.bool false)]) [.r (wuR (swp m k a) junk) 335] [] ⟨I,trivial⟩ ⟨swp m k a,k,false,.step hsw tqO tqO (Ak _) tqO tqO,tqO,tqO,hpt.done tqO tqO,I,I,I⟩
 obtain⟨yi,hyi⟩:=A9 (xs:=m) (k:=i);obtain⟨yk,hyk⟩:=A9 (xs:=m) (k:=k);have hne:i≠k:=λe=>by
  subst e;have e1:=hst tqO yi hyi;rw[hsk tqO yi hyi] at e1;cases e1
 refine Ao [13,15] (tqs 0 15<| .op 15 .z) [0] [(13,0),(15,0)] [] [] λ_=>?_;refine⟨_,Ay (i:=k),?_⟩;refine⟨_,Do hyk,?_⟩;refine⟨_,Ay (i:=i),?_⟩;refine⟨_,Do hyi,?_⟩;refine⟨_,Ay (i:=i),?_⟩;refine E8 hyi ?_;refine tqQ<|⟨_,Ay (i:=k),?_⟩;refine E8 (Lh hyi hyk) ?_;refine tqQ ?_;rw[J8 hyi hyk];refine Af (z:=((i+1:Nat):Int)) ?_;refine Af (z:=((k- 1:Nat):Int)) ?_;have hp2:=hpt.swap tqO tqO tqO hyi hyk (hst tqO yi hyi) (hsk tqO yk hyk);have hsw2:Sw a b l (swp m i k):=.step hsw tqO tqO tqO tqO tqO;exact⟨(i+1,k- 1,swp m i k),⟨tqP,tqP,tqP,tqP,hsw2,hp2⟩,tqP,Ac⟩
variable {p:Nat}
theorem Ju.high {q:Nat} (h:Ju lt a i m) (hp:i<=p) (hq:i<=q) (hp2:p<m.length) (hq2:q<m.length):Ju lt a i (swp m p q):=λu v x y h1 h2 h3 h4 h5=>by
 rw[Li hp2 hq2,Ar tqO,Ar tqO] at h4 h5;exact h u v x y h1 h2 h3 h4 h5
theorem Ju.snoc (ho:Ord lt) (h:Ju lt a i m) (hi:a<i) (hx:m[i]? =some x) (hy:m[i- 1]? =some y) (hn:lt x y=false):Ju lt a (i+1) m:=(T7.of h).stop ho hi (Ak _) hx hy hn
theorem T7.swap (h:Ju lt a i m) (hi:1<=i) (hl:i<m.length):T7 lt a (i- 1) (i- 1) (swp m i (i- 1)):=λp q x y h1 h2 h3 h4 h5 h6=>by
 rw[Li hl tqO,Ar tqO,Ar tqO] at h5 h6;exact h p q x y h1 h2 tqO h5 h6
def Ak6 (lt:Wu->Wu->Bool) (a b:Nat) (l:List Wu) (junk:List Value):Ku:=λr Ls F1=>∃(m:List Wu) (fl:Bool),Sw a b l m/\(fl=true->Ju lt a b m)/\r=.inl (.o (.v (.bool fl)))/\Ls=[.r (wuR m junk) 335]/\F1=[]
theorem Aet (c:Int) (ho:Ord (ltW c)) (l:List Wu) (junk:List Value) (cap a b:Nat) (hl:l.length<=1000000) (hab:a<b) (hbl:b<=l.length) (hpre:∀k x y,a<=k->k<b->1<=a->l[a- 1]? =some x->l[k]? =some y->ltW c y x=false):Cx prog 344 [.o (.s 0 0 l.length cap),.o (.v (.int .i64 a)),.o (.v (.int .i64 b)),.o (.v (He c))] [.r (wuR l junk) 335] [] (Ak6 (ltW c) a b l junk):=by
 unfold He;refine tqx func344 ntmps344 ?_;intro ρ w0 A0;refine Af (z:=((a+1:Nat):Int)) ?_;refine Br (γ:=Nat×Nat×List Wu) (λg=>g.1<=5/\a+1<=g.2.1/\g.2.1<=b/\Sw a b l g.2.2/\Ju (ltW c) a g.2.1 g.2.2) (λg=>[(10,.o (.v (.int .i64 g.1))),(9,.o (.v (.int .i64 g.2.1)))]) (λg=>[(0,D9 (wuR g.2.2 junk) 335)]) (λ_=>[]) (λg=>5- g.1) (0,a+1,l) ⟨tqP,Ak _,tqP,.refl _,.none (Ak _)⟩ Ac ?_;rintro ⟨jj,i0,m⟩ ⟨hjj,hi0,hib,hsw,hsr⟩;dsimp only at hjj hi0 hib hsw hsr⊢;have hml:=hsw.len;refine Ai (λh5=>?_) λh5=>?_;rotate_left
 ·exact Dg [0] (.o (.v (.bool false))) [.r (wuR m junk) 335] [] ⟨I,trivial⟩ ⟨m,false,hsw,(λh=>by cases h),I,I,I⟩
 refine O4 (γ:=Nat) 2 (λi=>i0<=i/\i<=b/\Ju (ltW c) a i m) (λi=>[(9,.o (.v (.int .i64 i)))]) (λ_=>[]) ?_ ?_
 ·refine Br (γ:=Nat) (λi=>i0<=i/\i<=b/\Ju (ltW c) a i m) (λi=>[(9,.o (.v (.int .i64 i)))]) (λ_=>[]) (λ_=>[]) (λi=>b- i) i0 ⟨Ak _,hib,hsr⟩ Ac ?_;rintro i ⟨hi1,hi2,hsr⟩;refine Ao [14] (tqs 0 17<| .op 17 .z) [0] [] [] [] λ_=>?_;refine Ai (λh1=>?_) λh1=>?_;rotate_left
  ·exact⟨i,⟨hi1,hi2,hsr⟩,Ac⟩
  obtain⟨x,hx⟩:=A9 (xs:=m) (k:=i);obtain⟨y,hy⟩:=A9 (xs:=m) (k:=i- 1);refine⟨_,Ay (i:=i),?_⟩;refine⟨_,Do hx,?_⟩;refine⟨_,Cb (z:=((i- 1:Nat):Int)),?_⟩;refine⟨_,Ay (i:=i- 1),?_⟩;refine⟨_,Do hy,?_⟩;refine tqc I5 (λ_=>Hx c x y) ?_;refine tqQ<|A7 (λh2=>?_) λh2=>?_
  ·have hf:ltW c x y=false:=by unfold ltW;simpa using h2
   refine Af (z:=((i+1:Nat):Int)) ?_;exact⟨i+1,⟨tqO,tqO,hsr.snoc ho tqO hx hy hf⟩,tqP,Ac⟩
  ·exact⟨i,⟨hi1,hi2,hsr⟩,Ac⟩
 rintro i ⟨hi1,hi2,hsr⟩;refine Ai (λh1=>?_) λh1=>?_
 ·obtain rfl:i=b:=by omega
  exact Dg [0] (.o (.v (.bool true))) [.r (wuR m junk) 335] [] ⟨I,trivial⟩ ⟨m,true,hsw,λ_=>hsr,I,I,I⟩
 refine Af (z:=((b- a:Nat):Int)) ?_;refine Ai (λh2=>?_) λh2=>?_
 ·exact Dg [0] (.o (.v (.bool false))) [.r (wuR m junk) 335] [] ⟨I,trivial⟩ ⟨m,false,hsw,(λh=>by cases h),I,I,I⟩
 obtain⟨x,hx⟩:=A9 (xs:=m) (k:=i);obtain⟨y,hy⟩:=A9 (xs:=m) (k:=i- 1);refine Ao [15,17] (tqs 0 17<| .op 17 .z) [0] [(15,0),(17,0)] [] [] λ_=>?_;refine⟨_,Cb (z:=((i- 1:Nat):Int)),?_⟩;refine⟨_,Cb (z:=((i- 1:Nat):Int)),?_⟩;refine⟨_,Ay (i:=i- 1),?_⟩;refine⟨_,Do hy,?_⟩;refine⟨_,Ay (i:=i),?_⟩;refine⟨_,Do hx,?_⟩;refine⟨_,Ay (i:=i),?_⟩;refine E8 hx ?_;refine tqQ<|⟨_,Ay (i:=i- 1),?_⟩;refine E8 (Lh hx hy) ?_;refine tqQ ?_;rw[J8 hx hy];have hin:=T7.swap hsr tqO tqO;have hsw1:Sw a b l (Go.Proofs.YtjofafbkkpdgbaaGreat.swp m i (i- 1)):=.step hsw tqO tqO tqO tqO tqO;generalize Go.Proofs.YtjofafbkkpdgbaaGreat.swp m i (i- 1)=m at hin hsw1⊢;clear hsw hsr hml hx hy;have hml:=hsw1.len;refine Af (z:=((i- a:Nat):Int)) ?_;refine Ai (λh3=>?_) λh3=>?_;rotate_left
 ·have hsw:=hsw1;have hsr:Ju (ltW c) a i m:=.none tqO;refine Af (z:=((b- i:Nat):Int)) ?_;refine Ai (λg1=>?_) λg1=>?_;rotate_left
  ·refine Af (z:=((jj+1:Nat):Int)) ?_;exact⟨(jj+1,i,m),⟨tqP,tqP,tqP,hsw,hsr⟩,tqP,Ac⟩
  refine Af (z:=((i+1:Nat):Int)) ?_;refine O4 (γ:=Nat×List Wu) 6 (λg=>Sw a b l g.2/\Ju (ltW c) a i g.2) (λg=>[(12,.o (.v (.int .i64 g.1)))]) (λg=>[(0,D9 (wuR g.2 junk) 335)]) ?_ ?_
  ·refine Br (γ:=Nat×List Wu) (λg=>i+1<=g.1/\g.1<=b/\Sw a b l g.2/\Ju (ltW c) a i g.2) (λg=>[(12,.o (.v (.int .i64 g.1)))]) (λg=>[(0,D9 (wuR g.2 junk) 335)]) (λ_=>[]) (λg=>b- g.1) (i+1,m) ⟨Ak _,tqP,hsw,hsr⟩ Ac ?_;rintro ⟨j,m⟩ ⟨hj1,hj2,hsw,hsr⟩;dsimp only at hj1 hj2 hsw hsr⊢;have hml:=hsw.len;refine Ai (λg2=>?_) λg2=>?_;rotate_left
   ·exact⟨(j,m),⟨hsw,hsr⟩,Ac⟩
   obtain⟨x,hx⟩:=A9 (xs:=m) (k:=j);obtain⟨y,hy⟩:=A9 (xs:=m) (k:=j- 1);refine Ao [10] (tqs 0 12<| .op 12 .z) [0] [] [] [] λ_=>?_;refine⟨_,Ay (i:=j),?_⟩;refine⟨_,Do hx,?_⟩;refine⟨_,Cb (z:=((j- 1:Nat):Int)),?_⟩;refine⟨_,Ay (i:=j- 1),?_⟩;refine⟨_,Do hy,?_⟩;refine tqc I5 (λ_=>Hx c x y) ?_;refine tqQ<|A7 (λg3=>?_) λg3=>?_
   ·exact⟨(j,m),⟨hsw,hsr⟩,Ac⟩
   refine Ao [15,17] (tqs 0 17<| .op 17 .z) [0] [(15,0),(17,0)] [] [] λ_=>?_;refine⟨_,Cb (z:=((j- 1:Nat):Int)),?_⟩;refine⟨_,Cb (z:=((j- 1:Nat):Int)),?_⟩;refine⟨_,Ay (i:=j- 1),?_⟩;refine⟨_,Do hy,?_⟩;refine⟨_,Ay (i:=j),?_⟩;refine⟨_,Do hx,?_⟩;refine⟨_,Ay (i:=j),?_⟩;refine E8 hx ?_;refine tqQ<|⟨_,Ay (i:=j- 1),?_⟩;refine E8 (Lh hx hy) ?_;refine tqQ ?_;rw[J8 hx hy];refine Af (z:=((j+1:Nat):Int)) ?_;exact⟨(j+1,Go.Proofs.YtjofafbkkpdgbaaGreat.swp m j (j- 1)),⟨tqP,tqP,.step hsw tqO tqO tqO tqO tqO,hsr.high tqO tqO tqO tqO⟩,tqP,Ac⟩
  rintro ⟨j,m⟩ ⟨hsw,hsr⟩;refine Af (z:=((jj+1:Nat):Int)) ?_;exact⟨(jj+1,i,m),⟨tqP,tqP,tqP,hsw,hsr⟩,tqP,Ac⟩
 refine Af (z:=((i- 1:Nat):Int)) ?_;refine O4 (γ:=Nat×List Wu) 4 (λg=>Sw a b l g.2/\Ju (ltW c) a i g.2) (λg=>[(11,.o (.v (.int .i64 g.1)))]) (λg=>[(0,D9 (wuR g.2 junk) 335)]) ?_ ?_
 ·refine Br (γ:=Nat×List Wu) (λg=>a<=g.1/\g.1<=i- 1/\Sw a b l g.2/\T7 (ltW c) a (i- 1) g.1 g.2) (λg=>[(11,.o (.v (.int .i64 g.1)))]) (λg=>[(0,D9 (wuR g.2 junk) 335)]) (λ_=>[]) (λg=>g.1) (i- 1,m) ⟨tqP,Ak _,hsw1,hin⟩ Ac ?_;clear hsw1 hin hml;rintro ⟨j,m⟩ ⟨hj1,hj2,hsw,hin⟩;dsimp only at hj1 hj2 hsw hin⊢;have hml:=hsw.len;have hii:i- 1+1=i:=by omega
  refine Ai (λg2=>?_) λg2=>?_;rotate_left
  ·obtain rfl:j=a:=by omega
   exact⟨(j,m),⟨hsw,by have:=hin.low;rwa[hii] at this⟩,Ac⟩
  obtain⟨x,hx⟩:=A9 (xs:=m) (k:=j);obtain⟨y,hy⟩:=A9 (xs:=m) (k:=j- 1);refine Ao [10] (tqs 0 12<| .op 12 .z) [0] [] [] [] λ_=>?_;refine⟨_,Ay (i:=j),?_⟩;refine⟨_,Do hx,?_⟩;refine⟨_,Cb (z:=((j- 1:Nat):Int)),?_⟩;refine⟨_,Ay (i:=j- 1),?_⟩;refine⟨_,Do hy,?_⟩;refine tqc I5 (λ_=>Hx c x y) ?_;refine tqQ<|A7 (λg3=>?_) λg3=>?_
  ·have hf:ltW c x y=false:=by unfold ltW;simpa using g3
   refine⟨(j,m),⟨hsw,?_⟩,Ac⟩;by_cases hja:a<j
   ·have:=hin.stop ho hja hj2 hx hy hf;rwa[hii] at this
   ·obtain rfl:j=a:=by omega
    have:=hin.low;rwa[hii] at this
  have ht:ltW c x y=true:=by unfold ltW;simpa using g3
  have hja:a<j:=by
   rcases Pj a j with h|h
   ·exact h
   ·obtain rfl:j=a:=by omega
    rw[hsw.out (.inl tqO)] at hy;have:=hsw.all (p:=λu=>ltW c u y=false) (λk u k1 k2 k3=>hpre k y u k1 k2 tqO hy k3) j x (Ak _) hab hx;rw[ht] at this;cases this
  refine Ao [15,17] (tqs 0 17<| .op 17 .z) [0] [(15,0),(17,0)] [] [] λ_=>?_;refine⟨_,Cb (z:=((j- 1:Nat):Int)),?_⟩;refine⟨_,Cb (z:=((j- 1:Nat):Int)),?_⟩;refine⟨_,Ay (i:=j- 1),?_⟩;refine⟨_,Do hy,?_⟩;refine⟨_,Ay (i:=j),?_⟩;refine⟨_,Do hx,?_⟩;refine⟨_,Ay (i:=j),?_⟩;refine E8 hx ?_;refine tqQ<|⟨_,Ay (i:=j- 1),?_⟩;refine E8 (Lh hx hy) ?_;refine tqQ ?_;rw[J8 hx hy];refine Af (z:=((j- 1:Nat):Int)) ?_;exact⟨(j- 1,Go.Proofs.YtjofafbkkpdgbaaGreat.swp m j (j- 1)),⟨tqP,tqP,.step hsw tqO tqO tqO tqO tqO,hin.step ho hja hj2 tqO hx hy ht⟩,tqP,Ac⟩
 clear hsw1 hin hml;rintro ⟨j0,m⟩ ⟨hsw,hsr⟩;dsimp only at hsw hsr⊢;have hml:=hsw.len;refine Af (z:=((b- i:Nat):Int)) ?_;refine Ai (λg1=>?_) λg1=>?_;rotate_left
 ·refine Af (z:=((jj+1:Nat):Int)) ?_;exact⟨(jj+1,i,m),⟨tqP,tqP,tqP,hsw,hsr⟩,tqP,Ac⟩
 refine Af (z:=((i+1:Nat):Int)) ?_;refine O4 (γ:=Nat×List Wu) 6 (λg=>Sw a b l g.2/\Ju (ltW c) a i g.2) (λg=>[(12,.o (.v (.int .i64 g.1)))]) (λg=>[(0,D9 (wuR g.2 junk) 335)]) ?_ ?_
 ·refine Br (γ:=Nat×List Wu) (λg=>i+1<=g.1/\g.1<=b/\Sw a b l g.2/\Ju (ltW c) a i g.2) (λg=>[(12,.o (.v (.int .i64 g.1)))]) (λg=>[(0,D9 (wuR g.2 junk) 335)]) (λ_=>[]) (λg=>b- g.1) (i+1,m) ⟨Ak _,tqP,hsw,hsr⟩ Ac ?_;rintro ⟨j,m⟩ ⟨hj1,hj2,hsw,hsr⟩;dsimp only at hj1 hj2 hsw hsr⊢;have hml:=hsw.len;refine Ai (λg2=>?_) λg2=>?_;rotate_left
  ·exact⟨(j,m),⟨hsw,hsr⟩,Ac⟩
  obtain⟨x,hx⟩:=A9 (xs:=m) (k:=j);obtain⟨y,hy⟩:=A9 (xs:=m) (k:=j- 1);refine Ao [10] (tqs 0 12<| .op 12 .z) [0] [] [] [] λ_=>?_;refine⟨_,Ay (i:=j),?_⟩;refine⟨_,Do hx,?_⟩;refine⟨_,Cb (z:=((j- 1:Nat):Int)),?_⟩;refine⟨_,Ay (i:=j- 1),?_⟩;refine⟨_,Do hy,?_⟩;refine tqc I5 (λ_=>Hx c x y) ?_;refine tqQ<|A7 (λg3=>?_) λg3=>?_
  ·exact⟨(j,m),⟨hsw,hsr⟩,Ac⟩
  refine Ao [15,17] (tqs 0 17<| .op 17 .z) [0] [(15,0),(17,0)] [] [] λ_=>?_;refine⟨_,Cb (z:=((j- 1:Nat):Int)),?_⟩;refine⟨_,Cb (z:=((j- 1:Nat):Int)),?_⟩;refine⟨_,Ay (i:=j- 1),?_⟩;refine⟨_,Do hy,?_⟩;refine⟨_,Ay (i:=j),?_⟩;refine⟨_,Do hx,?_⟩;refine⟨_,Ay (i:=j),?_⟩;refine E8 hx ?_;refine tqQ<|⟨_,Ay (i:=j- 1),?_⟩;refine E8 (Lh hx hy) ?_;refine tqQ ?_;rw[J8 hx hy];refine Af (z:=((j+1:Nat):Int)) ?_;exact⟨(j+1,Go.Proofs.YtjofafbkkpdgbaaGreat.swp m j (j- 1)),⟨tqP,tqP,.step hsw tqO tqO tqO tqO tqO,hsr.high tqO tqO tqO tqO⟩,tqP,Ac⟩
 rintro ⟨j,m⟩ ⟨hsw,hsr⟩;refine Af (z:=((jj+1:Nat):Int)) ?_;exact⟨(jj+1,i,m),⟨tqP,tqP,tqP,hsw,hsr⟩,tqP,Ac⟩
def Ue (lt:Wu->Wu->Bool) (a b c d:Nat) (l:List Wu):Prop:=∀p q x y,a<=p->p<q->q<b->¬(c<=p/\q<d)->l[p]? =some x->l[q]? =some y->lt y x=false
def U6 (lt:Wu->Wu->Bool) (a b:Nat) (l:List Wu):Prop:=∀k x y,a<=k->k<b->1<=a->l[a- 1]? =some x->l[k]? =some y->lt y x=false
variable {l:List Wu}
theorem Ue.none:Ue lt a b a b l:=λ_ _ _ _ h1 _ h3 h4=>absurd ⟨h1,h3⟩ h4
variable {c d:Nat}
theorem Ue.move (h:Ue lt a b c d l) (hs:Sw c d l m) (ha:a<=c) (hb:d<=b):Ue lt a b c d m:=by
 intro p q x y h1 h2 h3 h4 h5 h6;by_cases hp:c<=p/\p<d
 ·have hq:d<=q:=by omega
  rw[hs.out (.inr hq)] at h6;exact hs.all (p:=λu=>lt y u=false) (λk u k1 k2 k3=>h k q u y tqO tqO h3 tqO k3 h6) p x hp.1 hp.2 h5
 ·rw[hs.out tqO] at h5;by_cases hq:c<=q/\q<d
  ·exact hs.all (p:=λu=>lt u x=false) (λk u k1 k2 k3=>h p k x u h1 tqO tqO tqO h5 k3) q y hq.1 hq.2 h6
  ·rw[hs.out tqO] at h6;exact h p q x y h1 h2 h3 h4 h5 h6
theorem Ue.done (h:Ue lt a b c d l) (hs:Ju lt c d l):Ju lt a b l:=by
 intro p q x y h1 h2 h3 h5 h6;by_cases hc:c<=p/\q<d
 ·exact hs p q x y hc.1 h2 hc.2 h5 h6
 ·exact h p q x y h1 h2 h3 hc h5 h6
theorem Ue.low {e:Nat} (h:Ue lt a b c d l) (hr:∀p q x y,c<=p->p<q->p<e->q<d->l[p]? =some x->l[q]? =some y->lt y x=false):Ue lt a b e d l:=by
 intro p q x y h1 h2 h3 h4 h5 h6;by_cases hc:c<=p/\q<d
 ·exact hr p q x y hc.1 h2 tqO hc.2 h5 h6
 ·exact h p q x y h1 h2 h3 hc h5 h6
theorem Ue.high {e:Nat} (h:Ue lt a b c d l) (hr:∀p q x y,c<=p->p<q->e<=q->q<d->l[p]? =some x->l[q]? =some y->lt y x=false):Ue lt a b c e l:=by
 intro p q x y h1 h2 h3 h4 h5 h6;by_cases hc:c<=p/\q<d
 ·exact hr p q x y hc.1 h2 tqO hc.2 h5 h6
 ·exact h p q x y h1 h2 h3 hc h5 h6
theorem U6.of (hp:U6 lt a b l) (hs:Sw a b l m) (hx:Ue lt a b c d m) (hac:a<=c) (hdb:d<=b):U6 lt c d m:=by
 intro k x y h1 h2 h3 h4 h5;by_cases e:c=a
 ·subst e;rw[hs.out (.inl tqO)] at h4;exact hs.all (p:=λu=>lt u x=false) (λk u k1 k2 k3=>hp k x u k1 k2 h3 h4 k3) k y h1 tqO h5
 ·exact hx (c- 1) k x y tqO tqO tqO tqO h4 h5
theorem U6.move (hp:U6 lt c d l) (hs:Sw c d l m):U6 lt c d m:=by
 intro k x y h1 h2 h3 h4 h5;rw[hs.out (.inl tqO)] at h4;exact hs.all (p:=λu=>lt u x=false) (λk u k1 k2 k3=>hp k x u k1 k2 h3 h4 k3) k y h1 h2 h5
theorem U6.sub {e:Nat} (hp:U6 lt c d l) (h:e<=d):U6 lt c e l:=λk x y h1 h2=>hp k x y h1 tqO
variable {mid:Nat}
theorem Qm.pre (h:Qm lt c d mid m):U6 lt (mid+1) d m:=by
 obtain⟨x,h1,_,h3⟩:=h;intro k u y k1 k2 _ k4 k5;rw[Xf,h1] at k4;cases k4;exact h3 k y tqO k2 k5
theorem Qm.part (ho:Ord lt) (h:Qm lt c d mid m) {q:Nat} (h1:c<=p) (h2:p<=mid) (h3:mid<=q) (h4:p<q) (h5:q<d) (hx:m[p]? =some x) (hy:m[q]? =some y):lt y x=false:=by
 obtain⟨v,k1,k2,k3⟩:=h;by_cases e:q=mid
 ·subst e;rw[k1] at hy;cases hy;exact ho.asym _ _ (k2 p x h1 tqO hx)
 ·have hyv:=k3 q y tqO h5 hy;by_cases e2:p=mid
  ·subst e2;rw[k1] at hx;cases hx;exact hyv
  ·exact ho.tran x v y (ho.asym _ _ (k2 p x h1 tqO hx)) hyv
theorem Qm.low (ho:Ord lt) {n:List Wu} (h:Qm lt c d mid m) (hs:Sw c mid m n) (hr:Ju lt c mid n) {q:Nat} (h1:c<=p) (h2:p<q) (h3:p<mid+1) (h4:q<d) (hx:n[p]? =some x) (hy:n[q]? =some y):lt y x=false:=by
 by_cases hq:q<mid
 ·exact hr p q x y h1 h2 hq hx hy
 ·have hP:Qm lt c d mid n:=by
   obtain⟨v,k1,k2,k3⟩:=h;refine⟨v,by rw[hs.out (.inr (Ak _))];exact k1,hs.all k2,λk u g1 g2 g3=>?_⟩;rw[hs.out (.inr tqO)] at g3;exact k3 k u g1 g2 g3
  exact hP.part ho h1 tqO tqO h2 h4 hx hy
theorem Qm.high (ho:Ord lt) {n:List Wu} (h:Qm lt c d mid m) (hs:Sw (mid+1) d m n) (hr:Ju lt (mid+1) d n) {q:Nat} (h1:c<=p) (h2:p<q) (h3:mid<=q) (h4:q<d) (hx:n[p]? =some x) (hy:n[q]? =some y):lt y x=false:=by
 by_cases hp:mid+1<=p
 ·exact hr p q x y hp h2 h4 hx hy
 ·have hP:Qm lt c d mid n:=by
   obtain⟨v,k1,k2,k3⟩:=h;refine⟨v,by rw[hs.out (.inl tqO)];exact k1,λk u g1 g2 g3=>?_,λk u g1 g2 g3=>hs.all (p:=λu=>lt u v=false) (λk u e1 e2 e3=>k3 k u tqO e2 e3) k u tqO g2 g3⟩;rw[hs.out (.inl tqO)] at g3;exact k2 k u g1 g2 g3
  exact hP.part ho h1 tqO tqO h2 h4 hx hy
theorem Ak5 (ho:Ord lt) {z v:Wu} (hz:m[c- 1]? =some z) (hc:1<=c) (hp:U6 lt c d m) (hzv:lt z v=false) (h1:∀k u,c<=k->k<i->m[k]? =some u->lt v u=false) (h2:∀k u,i<=k->k<d->m[k]? =some u->lt v u=true) {q:Nat} (k1:c<=p) (k2:p<q) (k3:p<i) (k4:q<d) (hx:m[p]? =some x) (hy:m[q]? =some y):lt y x=false:=by
 have hvx:=h1 p x k1 k3 hx;by_cases hq:q<i
 ·exact ho.tran x v y hvx (ho.tran v z y hzv (hp q z y tqO k4 hc hz hy))
 ·exact ho.tran x v y hvx (ho.asym _ _ (h2 q y tqO k4 hy))
def Adu (a b d:Nat) (z:Nat) (hs:List Value):Ku:=λr Ls F1=>∃p z':Nat,(p=a\/p=b\/p=d)/\z'<=z+3/\r=.inl (.o (.v (.int .i64 p)))/\Ls=[.r hs 335,.c [.v (.int .i64 z')] 3]/\F1=[]
theorem IR (c:Int) (l:List Wu) (junk:List Value) (cap a b d z:Nat) (ha:a<l.length) (hb:b<l.length) (hd:d<l.length) (hz:z<=900):Cx prog 358 [.o (.s 0 0 l.length cap),.o (.v (.int .i64 a)),.o (.v (.int .i64 b)),.o (.v (.int .i64 d)),.o (.p 1 0),.o (.v (He c))] [.r (wuR l junk) 335,.c [.v (.int .i64 z)] 3] [] (Adu a b d z (wuR l junk)):=by
 refine tqx func358 ntmps358 ?_;intro ρ w0 A0;refine Cf (mu:=[.r (wuR l junk) 335,.c [.v (.int .i64 z)] 3]) [0,1] I7 ⟨I,I,trivial⟩ (IW c l junk cap a b z ha hb tqO) ?_;rintro r Ls F1 ⟨a1,b1,z1,h1,hz1,rfl,rfl,rfl⟩;refine Cf (mu:=[.r (wuR l junk) 335,.c [.v (.int .i64 z1)] 3]) [0,1] I7 ⟨I,I,trivial⟩ (IW c l junk cap b1 d z1 tqO hd tqO) ?_;rintro r Ls F1 ⟨b2,d2,z2,h2,hz2,rfl,rfl,rfl⟩;refine Cf (mu:=[.r (wuR l junk) 335,.c [.v (.int .i64 z2)] 3]) [0,1] I7 ⟨I,I,trivial⟩ (IW c l junk cap a1 b2 z2 tqO tqO tqO) ?_;rintro r Ls F1 ⟨a3,b3,z3,h3,hz3,rfl,rfl,rfl⟩;exact Dg [0,1] (.o (.v (.int .i64 b3))) [.r (wuR l junk) 335,.c [.v (.int .i64 z3)] 3] [] ⟨I,I,trivial⟩ ⟨b3,z3,tqO,tqO,I,I,I⟩
theorem IQ (c:Int) (l:List Wu) (junk:List Value) (cap a z:Nat) (hl:l.length<=1000000) (ha:1<=a) (hb:a+1<l.length) (hz:z<=900):Cx prog 357 [.o (.s 0 0 l.length cap),.o (.v (.int .i64 a)),.o (.p 1 0),.o (.v (He c))] [.r (wuR l junk) 335,.c [.v (.int .i64 z)] 3] [] (Adu (a- 1) a (a+1) z (wuR l junk)):=by
 refine tqx func357 ntmps357 ?_;intro ρ w0 A0;refine Af (z:=((a- 1:Nat):Int)) ?_;refine Af (z:=((a+1:Nat):Int)) ?_;refine Cf (mu:=[.r (wuR l junk) 335,.c [.v (.int .i64 z)] 3]) [0,1] I7 ⟨I,I,trivial⟩ (IR c l junk cap (a- 1) a (a+1) z tqO tqO tqO hz) ?_;rintro r Ls F1 ⟨p,z1,h1,hz1,rfl,rfl,rfl⟩;exact Dg [0,1] (.o (.v (.int .i64 p))) [.r (wuR l junk) 335,.c [.v (.int .i64 z1)] 3] [] ⟨I,I,trivial⟩ ⟨p,z1,h1,hz1,I,I,I⟩
def Am1 (a b:Nat) (hs:List Value):Ku:=λr Ls F1=>∃(p:Nat) (h:Int),a<=p/\p<b/\r=.inl (.t [.v (.int .i64 p),.v (.int .i64 h)])/\Ls=[.r hs 335]/\F1=[]
theorem Ak7 (c:Int) (l:List Wu) (junk:List Value) (cap a b:Nat) (hl:l.length<=1000000) (hab:a<b) (hbl:b<=l.length):Cx prog 342 [.o (.s 0 0 l.length cap),.o (.v (.int .i64 a)),.o (.v (.int .i64 b)),.o (.v (He c))] [.r (wuR l junk) 335] [] (Am1 a b (wuR l junk)):=by
 refine tqx func342 ntmps342 ?_;intro ρ w0 A0;refine Af (z:=((b- a:Nat):Int)) ?_;have hd:=BJ (q:=(b- a) / 4) (z:=1000000) tqO (Ak _);obtain⟨q,hq⟩:∃q,q=(b- a) / 4:=⟨_,I⟩;have hq4:4*q<=b- a/\b- a<4*q+4:=by omega
 have hdv:(((b- a:Nat):Int).tdiv (4:Int))=(q:Int):=by rw[hq];exact Yu (b- a) 4
 rw[<-hq] at hd;refine B8 (L5 (r:=(q:Int)) tqD hd.1 hd.2 I I I (Fb some hdv)) ?_;refine Af (z:=(q:Int)) ?_;refine Af (z:=((a+q:Nat):Int)) ?_;refine B8 (L5 (r:=(q:Int)) tqD hd.1 hd.2 I I I (Fb some hdv)) ?_;refine Af (z:=((2*q:Nat):Int)) ?_;refine Af (z:=((a+2*q:Nat):Int)) ?_;refine B8 (L5 (r:=(q:Int)) tqD hd.1 hd.2 I I I (Fb some hdv)) ?_;refine Af (z:=((3*q:Nat):Int)) ?_;refine Af (z:=((a+3*q:Nat):Int)) ?_;refine Ai (λh8=>?_) λh8=>?_;rotate_left
 ·exact Dg [0] (.t [.v (.int .i64 ((a+2*q:Nat):Int)),.v (.int .i64 1)]) [.r (wuR l junk) 335] [] ⟨I,trivial⟩ ⟨a+2*q,1,tqO,tqO,I,I,I⟩
 refine Ai (λh50=>?_) λh50=>?_;rotate_left
 ·refine Cf (mu:=[.r (wuR l junk) 335,.c [.v (.int .i64 ((0:Nat):Int))] 3]) [0,1] I7 ⟨I,I,trivial⟩ (IR c l junk cap (a+q) (a+2*q) (a+3*q) 0 tqO tqO tqO tqO) ?_;rintro r Ls F1 ⟨p,z1,h1,hz1,rfl,rfl,rfl⟩;refine A7 (λe1=>?_) λe1=>?_
  ·exact Dg [0] (.t [.v (.int .i64 ((p:Nat):Int)),.v (.int .i64 1)]) [.r (wuR l junk) 335] [] ⟨I,trivial⟩ ⟨p,1,tqO,tqO,I,I,I⟩
  refine A7 (λe2=>?_) λe2=>?_
  ·exact Dg [0] (.t [.v (.int .i64 ((p:Nat):Int)),.v (.int .i64 2)]) [.r (wuR l junk) 335] [] ⟨I,trivial⟩ ⟨p,2,tqO,tqO,I,I,I⟩
  ·exact Dg [0] (.t [.v (.int .i64 ((p:Nat):Int)),.v (.int .i64 0)]) [.r (wuR l junk) 335] [] ⟨I,trivial⟩ ⟨p,0,tqO,tqO,I,I,I⟩
 refine Cf (mu:=[.r (wuR l junk) 335,.c [.v (.int .i64 ((0:Nat):Int))] 3]) [0,1] I7 ⟨I,I,trivial⟩ (IQ c l junk cap (a+q) 0 hl tqO tqO tqO) ?_;rintro r Ls F1 ⟨p1,z1,h1,hz1,rfl,rfl,rfl⟩;refine Cf (mu:=[.r (wuR l junk) 335,.c [.v (.int .i64 ((z1:Nat):Int))] 3]) [0,1] I7 ⟨I,I,trivial⟩ (IQ c l junk cap (a+2*q) z1 hl tqO tqO tqO) ?_;rintro r Ls F1 ⟨p2,z2,h2,hz2,rfl,rfl,rfl⟩;refine Cf (mu:=[.r (wuR l junk) 335,.c [.v (.int .i64 ((z2:Nat):Int))] 3]) [0,1] I7 ⟨I,I,trivial⟩ (IQ c l junk cap (a+3*q) z2 hl tqO tqO tqO) ?_;rintro r Ls F1 ⟨p3,z3,h3,hz3,rfl,rfl,rfl⟩;refine Cf (mu:=[.r (wuR l junk) 335,.c [.v (.int .i64 ((z3:Nat):Int))] 3]) [0,1] I7 ⟨I,I,trivial⟩ (IR c l junk cap p1 p2 p3 z3 tqO tqO tqO tqO) ?_;rintro r Ls F1 ⟨p,z4,h4,hz4,rfl,rfl,rfl⟩;refine A7 (λe1=>?_) λe1=>?_
 ·exact Dg [0] (.t [.v (.int .i64 ((p:Nat):Int)),.v (.int .i64 1)]) [.r (wuR l junk) 335] [] ⟨I,trivial⟩ ⟨p,1,tqO,tqO,I,I,I⟩
 refine A7 (λe2=>?_) λe2=>?_
 ·exact Dg [0] (.t [.v (.int .i64 ((p:Nat):Int)),.v (.int .i64 2)]) [.r (wuR l junk) 335] [] ⟨I,trivial⟩ ⟨p,2,tqO,tqO,I,I,I⟩
 ·exact Dg [0] (.t [.v (.int .i64 ((p:Nat):Int)),.v (.int .i64 0)]) [.r (wuR l junk) 335] [] ⟨I,trivial⟩ ⟨p,0,tqO,tqO,I,I,I⟩
end Go.Proofs.YtjofafbkkpdgbaaGreat
