/- A part of the proof of LockOpens: rules and contracts. No condition. -/
import Derived.Test.YtjofafbkkpdgbaaGreatPnar
set_option maxRecDepth 100000
set_option maxHeartbeats 4000000
set_option linter.all false
namespace Go.Proofs.YtjofafbkkpdgbaaGreat
open Go.Proofs.Tryz
open Go.RowKit Go.Shelf
theorem Ahv (a:Option Addr) (cap:Nat) (xs:List Int) (hl:xs.length<=1000000):Cm prog 258 [.slice a xs.length cap] [] [slF Bt 1 (.slice a xs.length cap) xs] (Bd (.bool (xs.all Dt))):=by
 refine tqm [.o (.v (.slice a xs.length cap))] func258 ntmps258 λ_ _=>?_;refine Br (γ:=Nat) (λk=>k<=xs.length/\∀(j:Nat) x,j<k->xs[j]? =some x->Dt x=true) (λk=>[(3,.o (.v (.int .i64 k)))]) (λ_=>[]) (λ_=>[]) (λk=>xs.length- k) 0 ⟨Ax _,λj x hj=>by omega⟩ Ac ?_;rintro k ⟨hk,hyes⟩;refine Ai (λh1=>?_) λh1=>?_;rotate_left
 ·rw[Rf tqO hyes];exact tqE
 obtain⟨x,hx⟩:=A9 (xs:=xs) (k:=k);refine Dk (slF Bt 1 (.slice a xs.length cap) xs) (B1 hx) ?_;rintro ⟨b,off,rfl⟩;refine Au Bb ?_;refine Au (Ce (slF Bt 1 (.slice (some ⟨b,off,none⟩) xs.length cap) xs) (Eg hx (j:=0) I)) ?_;refine tqc I5 (λ_=>Ux x) ?_;cases hpx:Dt x
 ·rw[Ms hx hpx];exact tqE
 ·refine Af (z:=(k+1:Nat)) ?_;refine⟨k+1,⟨tqO,λj y hj hy=>?_⟩,tqP,Ac⟩;rcases Bg.1 hj with h|rfl
  ·exact hyes j y h hy
  ·rw[hx] at hy;cases hy;exact hpx
def Ug (c:Int) (q:List Wt):Nat->List Int
 |0=>Mx (Jo c) q q.length
 |d+1=>Ug c q d++Mx (Jk c (3- d)) q q.length
theorem HZ (c:Int) (q:List Wt):∀d,(Ug c q d).length<=(d+1)*q.length
 |0=>by simpa [Ug] using CR _ _ _
 |d+1=>by
  have h1:=HZ c q d;have h2:=CR (Jk c (3- d)) q q.length;have h3:(d+1+1)*q.length=(d+1)*q.length+q.length:=by rw[Fl (d+1) 1,Wv]
  rw[Ug,Az];omega
theorem RB (c:Int) (q:List Wt):Ug c q 4=Ns c q:=by
 rw[Aky];simp only[Ug,Cp];rfl
theorem Abe (c:Int) (a:Option Addr) (cap:Nat) (q:List Wt) (hl:q.length<=1000000):Cm prog 259 [.slice a q.length cap,.int .i64 c] [] [slF wtL 5 (.slice a q.length cap) q] (NK Bt 1 (Ns c q)):=by
 refine tqm [.o (.v (.slice a q.length cap)),.o (.v (.int .i64 c))] func259 ntmps259 λ_ _=>?_;refine Rl (MM 3 1) ?_;refine Br (γ:=Nat×Option Addr×Nat) (λg=>g.1<=q.length) (λg=>[(6,.o (.v (.int .i64 g.1))),(5,.o (.v (.slice g.2.1 (Mx (Jo c) q g.1).length g.2.2)))]) (λg=>[(0,.own (.slice g.2.1 (Mx (Jo c) q g.1).length g.2.2) 3 1 (Mx (Jo c) q g.1).length ((Mx (Jo c) q g.1).flatMap Bt))]) (λ_=>[]) (λg=>q.length- g.1) (0,none,0) (Ax _) ?_ ?_
 ·simp only[PI];exact Ac
 rintro ⟨k,a1,c1⟩ hk;dsimp only at hk⊢;have hpl:=CR (Jo c) q k;refine Ai (λh1=>?_) λh1=>?_
 ·obtain⟨x,hx⟩:=A9 (xs:=q) (k:=k);have hs:=PH (p:=Jo c) hx;refine Dk (slF wtL 5 (.slice a q.length cap) q) (B1 hx) ?_;rintro ⟨b,off,rfl⟩;refine Au (Bb (i:=k)) ?_;refine Au (Ce (slF wtL 5 (.slice (some ⟨b,off,none⟩) q.length cap) q) (Eg hx (j:=4) I)) ?_;refine Ai (λh2=>?_) λh2=>?_
  ·rw[show Jo c ⟨x,(k:Int)⟩=true from D4 (show c<=x.age by omega),Ci] at hs;refine Dq 0 (m':=1) (news:=[.int .i64 (k:Int)]) I I I I I I I I I tqD I I I (Uq (news:=[.int .i64 (k:Int)]) I I) I (by simp[Value.oneCell']) tqO tqM ?_;intro a2 c2;refine Af (z:=(k+1:Nat)) ?_;refine⟨(k+1,a2,c2),tqP,tqP,?_⟩;simp only[hs,Az,Em,Ct,Ep];exact Ac
  ·rw[show Jo c ⟨x,(k:Int)⟩=false from Gg (show ¬c<=x.age by omega),By,Bu] at hs;refine Af (z:=(k+1:Nat)) ?_;refine⟨(k+1,a1,c1),tqP,tqP,?_⟩;simp only[hs];exact Ac
 obtain rfl:k=q.length:=by omega
 clear h1 hk;refine Br (γ:=Nat×Option Addr×Nat) (λg=>g.1<=4) (λg=>[(7,.o (.v (.int .i64 (3- g.1)))),(5,.o (.v (.slice g.2.1 (Ug c q g.1).length g.2.2)))]) (λg=>[(0,.own (.slice g.2.1 (Ug c q g.1).length g.2.2) 3 1 (Ug c q g.1).length ((Ug c q g.1).flatMap Bt))]) (λ_=>[]) (λg=>4- g.1) (0,a1,c1) (Ax _) Ac ?_;rintro ⟨d,a1,c1⟩ hd;dsimp only at hd⊢;have hal:=HZ c q d;have hdq:(d+1)*q.length<=5*q.length:=D0 _ tqO;refine Ai (λh1=>?_) λh1=>?_;rotate_left
 ·obtain rfl:d=4:=by omega
  rw[RB];refine Dj (D8 (j:=0) (v:=.slice a1 (Ns c q).length c1) (m:=(Ns c q).length) (enc:=Bt) (xs:=Ns c q) (.inl I) (λ_=>I) I I) ?_;exact Al [slF Bt 1 (.slice a1 (Ns c q).length c1) (Ns c q)] I2 λ_=>⟨a1,c1,I,I⟩
 refine Br (γ:=Nat×Option Addr×Nat) (λg=>g.1<=q.length) (λg=>[(8,.o (.v (.int .i64 g.1))),(5,.o (.v (.slice g.2.1 (Ug c q d++Mx (Jk c (3- d)) q g.1).length g.2.2)))]) (λg=>[(0,.own (.slice g.2.1 (Ug c q d++Mx (Jk c (3- d)) q g.1).length g.2.2) 3 1 (Ug c q d++Mx (Jk c (3- d)) q g.1).length ((Ug c q d++Mx (Jk c (3- d)) q g.1).flatMap Bt))]) (λ_=>[]) (λg=>q.length- g.1) (0,a1,c1) (Ax _) ?_ ?_
 ·simp only[PI,Bu];exact Ac
 rintro ⟨k,a1,c1⟩ hk;dsimp only at hk⊢;have hpl:=CR (Jk c (3- d)) q k;have hll:(Ug c q d++Mx (Jk c (3- d)) q k).length<=6*q.length:=by rw[Az];omega
 refine Ai (λh2=>?_) λh2=>?_;rotate_left
 ·obtain rfl:k=q.length:=by omega
  refine Af (z:=3- ((d+1:Nat):Int)) (hz:=by rw[Ey]<;>omega) (ho:=I) (hx:=I) (hy:=I) (hr:=I) ?_;refine⟨(d+1,a1,c1),tqP,tqP,?_⟩;exact Ac
 obtain⟨x,hx⟩:=A9 (xs:=q) (k:=k);have hs:=PH (p:=Jk c (3- d)) hx;refine Dk (slF wtL 5 (.slice a q.length cap) q) (B1 hx) ?_;rintro ⟨b,off,rfl⟩;refine Au (Bb (i:=k)) ?_;refine Au (Ce (slF wtL 5 (.slice (some ⟨b,off,none⟩) q.length cap) q) (Eg hx (j:=4) I)) ?_;refine Ai (λh3=>?_) λh3=>?_;rotate_left
 ·rw[show Jk c (3- d) ⟨x,(k:Int)⟩=false by unfold Jk Jo;rw[D4 (show c<=x.age by omega)];rfl,By,Bu] at hs;refine Af (z:=(k+1:Nat)) ?_;refine⟨(k+1,a1,c1),tqP,tqP,?_⟩;simp only[hs];exact Ac
 refine Au (Bb (i:=k)) ?_;refine Au (Ce (slF wtL 5 (.slice (some ⟨b,off,none⟩) q.length cap) q) (Eg hx (j:=3) I)) ?_;have hP:Jk c (3- d) ⟨x,(k:Int)⟩=decide (x.prio=3- (d:Int)):=by unfold Jk Jo;rw[Gg (show ¬c<=x.age by omega)];rfl
 refine A7 (λh4=>?_) λh4=>?_;rotate_left
 ·rw[hP,show decide (x.prio=3- (d:Int))=false by simpa using h4,By,Bu] at hs;refine Af (z:=(k+1:Nat)) ?_;refine⟨(k+1,a1,c1),tqP,tqP,?_⟩;simp only[hs];exact Ac
 rw[hP,show decide (x.prio=3- (d:Int))=true by simpa using h4,Ci] at hs;refine Dq 0 (m':=1) (news:=[.int .i64 (k:Int)]) I I I I I I I I I tqD I I I (Uq (news:=[.int .i64 (k:Int)]) I I) I (by simp[Value.oneCell']) tqO tqM ?_;intro a2 c2;refine Af (z:=(k+1:Nat)) ?_;refine⟨(k+1,a2,c2),tqP,tqP,?_⟩;simp only[hs,Az,Em,Ct,Ep,<-Cp,<-Ty];exact Ac
theorem Ahx (c:Int) (a:Option Addr) (cap:Nat) (q:List Wt) (ah:Option Addr) (ch:Nat) (held:List Int) (i:Nat) (w:Wt) (hi:q[i]? =some w) (hl:q.length<=1000000) (hh:held.length<=1000000):Cm prog 260 [.slice a q.length cap,.int .i64 c,.slice ah held.length ch,.int .i64 i] [] [slF wtL 5 (.slice a q.length cap) q,slF Bt 1 (.slice ah held.length ch) held] (Bd (.bool (Q3 c q held ⟨w,i⟩))):=by
 have hil:=(Aa.1 hi).1;refine tqm [.o (.v (.slice a q.length cap)),.o (.v (.int .i64 c)),.o (.v (.slice ah held.length ch)),.o (.v (.int .i64 i))] func260 ntmps260 λ_ _=>?_;refine Ec (slF wtL 5 (.slice a q.length cap) q) (B1 hi) ?_;rintro ⟨b,off,rfl⟩;refine Br (γ:=Nat) (λk=>k<=held.length/\∀(j:Nat) x,j<k->held[j]? =some x->El w.mode x=true) (λk=>[(9,.o (.v (.int .i64 k)))]) (λ_=>[]) (λ_=>[]) (λk=>held.length- k) 0 ⟨Ax _,λj x hj=>by omega⟩ Ac ?_;rintro k ⟨hk,hyes⟩;refine Ai (λh1=>?_) λh1=>?_
 ·obtain⟨x,hx⟩:=A9 (xs:=held) (k:=k);refine Ec (slF Bt 1 (.slice ah held.length ch) held) (B1 hx) ?_;rintro ⟨bh,offh,rfl⟩;refine Ao [9] (tqs 0 10<| .op 10 .z) [] [] [] [slF wtL 5 (.slice (some ⟨b,off,none⟩) q.length cap) q,slF Bt 1 (.slice (some ⟨bh,offh,none⟩) held.length ch) held] λ_=>?_;refine⟨_,Bb (i:=i) (hi:=hil),?_⟩;refine⟨_,Ce (slF wtL 5 (.slice (some ⟨b,off,none⟩) q.length cap) q) (Eg hi (j:=2) I),?_⟩;refine⟨_,Bb (i:=k),?_⟩;refine⟨_,Ce (slF Bt 1 (.slice (some ⟨bh,offh,none⟩) held.length ch) held) (Eg hx (j:=0) I),?_⟩;refine tqc I5 (λ_=>Xo w.mode x) ?_;refine tqQ ?_;conv=>whnf
  cases hf:El w.mode x
  ·rw[show Q3 c q held ⟨w,i⟩=false by unfold Q3;rw[Ms hx hf];rfl];exact tqE
  ·refine Af (z:=(k+1:Nat)) ?_;refine⟨k+1,⟨tqO,λj y hj hy=>?_⟩,tqP,Ac⟩;rcases Bg.1 hj with h|rfl
   ·exact hyes j y h hy
   ·rw[hx] at hy;cases hy;exact hf
 have hA:held.all (El w.mode)=true:=Rf tqO hyes;refine Br (γ:=Nat) (λk=>k<=i/\∀(j:Nat) x,j<k->q[j]? =some x->(!decide (c<=x.age)||El w.mode x.mode)=true) (λk=>[(10,.o (.v (.int .i64 k)))]) (λ_=>[]) (λ_=>[]) (λk=>i- k) 0 ⟨Ax _,λj x hj=>by omega⟩ Ac ?_;rintro k ⟨hk,hyes⟩;refine Ai (λh1=>?_) λh1=>?_;rotate_left
 ·rw[show Q3 c q held ⟨w,i⟩=true by
   unfold Q3;rw[hA,C8];refine Rf (k:=k) (by simp;omega) λj x hj hx=>hyes j x hj ?_;rw[Kz] at hx;split at hx
   ·exact hx
   ·cases hx]
  exact tqE
 obtain⟨x,hx⟩:=A9 (xs:=q) (k:=k);have hno:(!decide (c<=x.age)||El w.mode x.mode)=false->Q3 c q held ⟨w,i⟩=false:=λh=>by
  unfold Q3;have h2:(q.take i)[k]? =some x:=by rw[Db tqO];exact hx
  dsimp only;rw[Ej,Ms (p:=λo:Wt=> !decide (c<=o.age)||El w.mode o.mode) h2 h,L6]
 have hgo:(!decide (c<=x.age)||El w.mode x.mode)=true->∀(j:Nat) y,j<k+1->q[j]? =some y->(!decide (c<=y.age)||El w.mode y.mode)=true:=λh j y hj hy=>by
  rcases Bg.1 hj with h|rfl
  ·exact hyes j y h hy
  ·rw[hx] at hy;cases hy;exact h
 refine Ao [18] (tqs 0 20<| .op 20 .z) [] [] [] [slF wtL 5 (.slice (some ⟨b,off,none⟩) q.length cap) q] λ_=>?_;refine⟨_,Bb (i:=k),?_⟩;refine⟨_,Ce (slF wtL 5 (.slice (some ⟨b,off,none⟩) q.length cap) q) (Eg hx (j:=4) I),?_⟩;refine Ai (λh2=>?_) λh2=>?_;rotate_left
 ·refine Af (z:=(k+1:Nat)) ?_;exact⟨k+1,⟨tqO,hgo (by rw[Gg (show ¬c<=x.age by omega)];rfl)⟩,tqP,Ac⟩
 refine⟨_,Bb (i:=i) (hi:=hil),?_⟩;refine⟨_,Ce (slF wtL 5 (.slice (some ⟨b,off,none⟩) q.length cap) q) (Eg hi (j:=2) I),?_⟩;refine⟨_,Bb (i:=k),?_⟩;refine⟨_,Ce (slF wtL 5 (.slice (some ⟨b,off,none⟩) q.length cap) q) (Eg hx (j:=2) I),?_⟩;refine tqc I5 (λ_=>Xo w.mode x.mode) ?_;refine tqQ ?_;conv=>whnf
 cases hf:El w.mode x.mode
 ·rw[hno (by rw[hf,D4 (show c<=x.age by omega)];rfl)];exact tqE
 ·refine Af (z:=(k+1:Nat)) ?_;exact⟨k+1,⟨tqO,hgo (by rw[hf,Bool.or_true])⟩,tqP,Ac⟩
theorem Ae1 (c:Int) (a:Option Addr) (cap:Nat) (q:List Wt) (ah:Option Addr) (ch:Nat) (held:List Int) (hl:q.length<=1000000) (hh:held.length<=1000000):Cm prog 168 [.slice a q.length cap,.int .i64 c,.slice ah held.length ch] [] [slF wtL 5 (.slice a q.length cap) q,slF Bt 1 (.slice ah held.length ch) held] (Bd (Aau (Kt c q held))):=by
 have hW:=AI a cap q hl;have hC:=IY c;have hM:=Ahv ah ch held hh;unfold Kt;refine tqm [.o (.v (.slice a q.length cap)),.o (.v (.int .i64 c)),.o (.v (.slice ah held.length ch))] func168 ntmps168 λ_ _=>?_;refine tqc I5 (λ_=>hW) ?_;cases hW:D5 q
 ·exact tqE
 refine tqc I5 (λ_=>hC) ?_;cases hC:O1 c
 ·exact tqE
 refine tqc I5 (λ_=>hM) ?_;cases hM:held.all Dt
 ·exact tqE
 simp only[Tu,Ci];have hal:(Ns c q).length<=1000000:=by
  have:=HZ c q 4;have h1:=(Ft.1 hW).1;rw[RB] at this;omega
 refine Aj [] [] I7 (λ_=>Abe c a cap q hl) ?_;rintro e cs F1 _ ⟨a1,c1,rfl,rfl⟩;refine Br (γ:=Nat) (λk=>k<=(Ns c q).length/\∀(j:Nat) u,j<k->(Zn c q)[j]? =some u->Q3 c q held u=false) (λk=>[(9,.o (.v (.int .i64 k)))]) (λ_=>[]) (λ_=>[]) (λk=>(Ns c q).length- k) 0 ⟨Ax _,λj x hj=>by omega⟩ Ac ?_;rintro k ⟨hk,hno⟩;refine Ai (λh1=>?_) λh1=>?_;rotate_left
 ·rw[Ac4 λj v hv=>hno j v (by have:=(Aa.1 hv).1;rw[<-Ahl] at this;omega) hv];exact tqE
 obtain⟨z,hz⟩:=A9 (xs:=Ns c q) (k:=k);obtain⟨u,i,hu,hp,hzi,hi⟩:=Akx hz;refine Dk (slF Bt 1 (.slice a1 (Ns c q).length c1) (Ns c q)) (B1 hz) ?_;rintro ⟨b,off,rfl⟩;refine Au (Bb (i:=k)) ?_;refine Au (Ce (slF Bt 1 (.slice (some ⟨b,off,none⟩) (Ns c q).length c1) (Ns c q)) (Eg hz (j:=0) I)) ?_;have hMy:=Ahx c a cap q ah ch held i u.w hi hl hh;rw[<-hzi] at hMy;rw[show (⟨u.w,z⟩:Wu)=u by rw[<-hp]] at hMy;refine tqc I5 (λ_=>hMy) ?_;cases hf:Q3 c q held u
 ·refine Af (z:=(k+1:Nat)) ?_;refine⟨k+1,⟨tqO,λj y hj hy=>?_⟩,tqP,Ac⟩;rcases Bg.1 hj with h|rfl
  ·exact hno j y h hy
  ·rw[hu] at hy;cases hy;exact hf
 refine Au (Bb (i:=k)) ?_;refine Au (Ce (slF Bt 1 (.slice (some ⟨b,off,none⟩) (Ns c q).length c1) (Ns c q)) (Eg hz (j:=0) I)) ?_;rw[IH hno hu hf,show Aau (some u)=.tuple #[.int .i64 z,.bool true] by rw[<-hp];rfl];exact tqE
theorem UE (a:Option Addr) (cap:Nat) (q:List Wt) (i:Nat) (w:Wt) (hl:q.length<=1000000) (hW:D5 q=true) (hi:q[i]? =some w):Cm prog 170 [.slice a q.length cap,.int .i64 i] [] [slF wtL 5 (.slice a q.length cap) q] (λe _ F1=>∃a c,e=.returned (.tuple #[.slice a (F9 q i w.mode).length c,.agg (wtL w).toArray,.int .i64 0])/\F1=[slF wtL 5 (.slice a (F9 q i w.mode).length c) (F9 q i w.mode)]):=by
 have hil:=(Aa.1 hi).1;have hR:=AI a cap q hl;have hWo:=EP a cap q i hil hl;rw[hW] at hR;refine tqm [.o (.v (.slice a q.length cap)),.o (.v (.int .i64 i))] func170 ntmps170 λ_ _=>?_;refine tqc I5 (λ_=>hR) ?_;refine Ai (λh1=>?_) λh1=>?_
 ·omega
 refine P1 [] I I I I I (λ_=>I) (hWo) (.nil tqS) (.inl I) ?_;rintro v Rs F1 ⟨a1,c1,rfl,rfl,rfl⟩;rw[<-Ad4 q i w.mode];have hol:=λk (h:k<=i)=>Ahc (m:=w.mode) hil h;have h00:=hol 0 (Ax _);refine Ec (slF wtL 5 (.slice a q.length cap) q) (B1 hi) ?_;rintro ⟨b,off,rfl⟩;refine Br (γ:=Nat) (λk=>k<=i) (λk=>[(8,.o (.v (.int .i64 k)))]) (λk=>[(1,.own (.slice a1 (R0 q i 0 w.mode).length c1) 167 5 (R0 q i 0 w.mode).length ((R0 q i k w.mode).flatMap wtL))]) (λ_=>[]) (λk=>i- k) 0 (Ax _) Ac ?_;rintro k hk;refine Ai (λh2=>?_) λh2=>?_;rotate_left
 ·obtain rfl:k=i:=by omega
  rw[TH];have hgl:(R0 q k 0 w.mode).length=(F9 q k w.mode).length:=by rw[<-TH,h00];exact(hol k (Ak _)).symm
  rw[hgl];refine Ao [6] (tqs 0 7<| .op 7 .z) [0] [(6,0)] [] [slF wtL 5 (.slice (some ⟨b,off,none⟩) q.length cap) q] λ_=>?_;refine⟨_,Bb (i:=k) (hi:=hil),?_⟩;refine⟨_,Cu (vs:=wtL w) (slF wtL 5 (.slice (some ⟨b,off,none⟩) q.length cap) q) (Du hi),?_⟩;refine tqQ<|Dj (D8 (j:=1) (v:=.slice a1 (F9 q k w.mode).length c1) (m:=(F9 q k w.mode).length) (enc:=wtL) (xs:=F9 q k w.mode) (.inl I) Ez I I) ?_;exact Al [slF wtL 5 (.slice a1 (F9 q k w.mode).length c1) (F9 q k w.mode)] I2 λ_=>⟨a1,c1,I,I⟩
 obtain⟨y,hy⟩:=A9 (xs:=q) (k:=k);have hoy:=Akp (m:=w.mode) hy (show k<i by omega);have hos:=Ad3 (m:=w.mode) hy (show k<i by omega);refine Ao [10] (tqs 0 11<| .op 11 .z) [] [] [] [slF wtL 5 (.slice (some ⟨b,off,none⟩) q.length cap) q] λ_=>?_;refine⟨_,Bb (i:=k),?_⟩;refine⟨_,Ce (slF wtL 5 (.slice (some ⟨b,off,none⟩) q.length cap) q) (Eg hy (j:=2) I),?_⟩;refine⟨_,Bb (i:=i),?_⟩;refine⟨_,Ce (slF wtL 5 (.slice (some ⟨b,off,none⟩) q.length cap) q) (Eg hi (j:=2) I),?_⟩;refine tqc I5 (λ_=>Xo y.mode w.mode) ?_;refine tqQ ?_;conv=>whnf
 cases hf:El y.mode w.mode;rotate_left
 ·refine Af (z:=(k+1:Nat)) ?_;refine⟨k+1,tqO,tqP,?_⟩;have e:R0 q i (k+1) w.mode=R0 q i k w.mode:=by rw[hos,PB hf,JA hoy]
  simp only[e];exact Ac
 have hya:0<=y.age/\y.age<=64:=by
  have:=(Ft.1 hW).2.1 y (Av hy);simp only[wtB,Ad,Aq] at this;omega
 refine W7 1 I tqO ?_;rintro g rfl;refine Au (Bb (i:=k)) ?_;refine B8 (Als (enc:=wtL) (sz:=5) (i:=k) (q:=4) 1 I hoy Ez I tqO tqO I I I) ?_;refine Af (z:=y.age+1) ?_;refine YF I I I I I ?_;refine Au (Bb (i:=k)) ?_;refine Zl (enc:=wtL) (sz:=5) (i:=k) (q:=4) (ys:=[.int .i64 (min 64 (y.age+1))]) 1 (M6 w.mode y) I hoy Ez I I I I tqO I I tqO I (by simp[Value.oneCell']) tqS (by rw[PC hf,Int.min_comm];rfl) ?_;rw[<-hos];refine Af (z:=(k+1:Nat)) ?_;exact⟨k+1,tqO,tqP,Ac⟩
theorem Aba (a:Option Addr) (cap:Nat) (xs:List Hd) (m:Int) (hl:xs.length<=1000000):Cm prog 263 [.slice a xs.length cap,.int .i64 m] [] [slF hdL 3 (.slice a xs.length cap) xs] (Bd (.bool (xs.all λy=>El y.mode m))):=by
 refine tqm [.o (.v (.slice a xs.length cap)),.o (.v (.int .i64 m))] func263 ntmps263 λ_ _=>?_;refine Br (γ:=Nat) (λk=>k<=xs.length/\∀(j:Nat) x,j<k->xs[j]? =some x->El x.mode m=true) (λk=>[(5,.o (.v (.int .i64 k)))]) (λ_=>[]) (λ_=>[]) (λk=>xs.length- k) 0 ⟨Ax _,λj x hj=>by omega⟩ Ac ?_;rintro k ⟨hk,hyes⟩;refine Ai (λh1=>?_) λh1=>?_;rotate_left
 ·rw[Rf (p:=λy:Hd=>El y.mode m) tqO hyes];exact tqE
 obtain⟨x,hx⟩:=A9 (xs:=xs) (k:=k);refine Dk (slF hdL 3 (.slice a xs.length cap) xs) (B1 hx) ?_;rintro ⟨b,off,rfl⟩;refine Au Bb ?_;refine Au (Ce (slF hdL 3 (.slice (some ⟨b,off,none⟩) xs.length cap) xs) (Eg hx (j:=2) I)) ?_;refine tqc I5 (λ_=>Xo x.mode m) ?_;cases hpx:El x.mode m
 ·rw[Ms (p:=λy:Hd=>El y.mode m) hx hpx];exact tqE
 ·refine Af (z:=(k+1:Nat)) ?_;refine⟨k+1,⟨tqO,λj y hj hy=>?_⟩,tqP,Ac⟩;rcases Bg.1 hj with h|rfl
  ·exact hyes j y h hy
  ·rw[hx] at hy;cases hy;exact hpx
theorem Aoh {P:Prop} {α:Type} (C:α->Prop) {G:α->Prop} (h1:(∀a,C a->G a)->P) (h2:∀a,C a->G a):P:=h1 h2
theorem Aew (a:Option Addr) (cap:Nat) (xs:List Hd) (x:Hd) (hl:xs.length<=1000000) (hB:Ff xs=true) (hX:hdB x=true) (hA:xs.any (C9 x.site)=false) (hC:xs.any (Rm x.mode)=false):Cm prog 171 [.slice a xs.length cap,.agg (hdL x).toArray] [] [slF hdL 3 (.slice a xs.length cap) xs] (λe _ F1=>∃a c,e=.returned (.tuple #[.slice a (Is xs x).length c,.int .i64 0])/\F1=[slF hdL 3 (.slice a (Is xs x).length c) (Is xs x)]):=by
 have hR:=CT a cap xs hl;have hM:=PK x;have hF:=Yl a cap xs x.site hl;have hT:=Aba a cap xs x.mode hl;rw[hB] at hR;rw[hX] at hM;have h0:Hl (C9 x.site) xs= -1:=by
  have hA2:=hA;rw[<-Hq] at hA2;unfold Hl at hA2⊢;split at hA2
  ·simp at hA2
  ·rfl
 rw[h0] at hF;have hfit:(xs.all λy=>El y.mode x.mode)=true:=by
  rw[A6];intro y hy;have:=Gy.1 hC y hy;simp only[Rm,Ei,Bool.not_eq_false,Ad] at this;exact this.2
 rw[hfit] at hT;refine tqm [.o (.v (.slice a xs.length cap)),.g [.v (.int .i64 x.site),.v (.int .i64 x.use),.v (.int .i64 x.mode)]] func171 ntmps171 λ_ _=>?_;refine tqc I5 (λ_=>hR) ?_;refine tqc I5 (λ_=>hM) ?_;refine tqc I5 (λ_=>hF) ?_;refine tqc I5 (λ_=>hT) ?_;apply Aoh λk=>k<=xs.length/\(∀(j:Nat) y,j<k->xs[j]? =some y->y.site<x.site)/\∀y,xs[k]? =some y->x.site<=y.site
 ·intro tail;refine Br (γ:=Nat) (λk=>k<=xs.length/\∀(j:Nat) y,j<k->xs[j]? =some y->y.site<x.site) (λk=>[(6,.o (.v (.int .i64 k)))]) (λ_=>[]) (λ_=>[]) (λk=>xs.length- k) 0 ⟨Ax _,λj y hj=>by omega⟩ Ac ?_;rintro k ⟨hk,hlow⟩;by_cases hlt:k<xs.length
  ·obtain⟨y,hy⟩:=A9 (xs:=xs) (k:=k) (h:=hlt);refine Ec (slF hdL 3 (.slice a xs.length cap) xs) (B1 hy) ?_;rintro ⟨b,off,hab⟩;refine Ao [] (tqs 0 13<| .op 13 .z) [0] [] [] [slF hdL 3 (.slice a xs.length cap) xs] λ_=>?_;refine Ai (λh1=>?_) λh1=>?_;rotate_left
   ·omega
   refine⟨_,Bb (b:=b) (off:=off) (m:=xs.length) (cap:=cap) (i:=k) (hi:=hlt) (hx:=by rw[<-hab];rfl),?_⟩;refine⟨_,Ce (slF hdL 3 (.slice a xs.length cap) xs) (by rw[hab];exact Eg hy (j:=0) I),?_⟩;refine Ai (λh2=>?_) λh2=>?_
   ·refine Af (z:=(k+1:Nat)) ?_;refine⟨k+1,⟨tqO,λj z hj hz=>?_⟩,tqP,Ac⟩;rcases Bg.1 hj with h|rfl
    ·exact hlow j z h hz
    ·rw[hy] at hz;cases hz;exact h2
   ·exact K5 [(6,.o (.v (.int .i64 k))),(0,.o (.v (.slice a xs.length cap))),(3,.o (.p 0 0))] [(0,.c ((hdL x).map SV.v) 170)] 1 [slF hdL 3 (.slice a xs.length cap) xs] Ac (tail k ⟨hk,hlow,λz hz=>by rw[hy] at hz;cases hz;omega⟩)
  ·refine Ao [] (tqs 0 13<| .op 13 .z) [0] [] [] [] λ_=>?_;refine Ai (λh1=>?_) λh1=>?_
   ·omega
   exact K5 [(6,.o (.v (.int .i64 k))),(0,.o (.v (.slice a xs.length cap))),(3,.o (.p 0 0))] [(0,.c ((hdL x).map SV.v) 170)] 1 [slF hdL 3 (.slice a xs.length cap) xs] Ac (tail k ⟨hk,hlow,λz hz=>by have:=(Aa.1 hz).1;omega⟩)
 ·rintro k ⟨hk,hlow,hhi⟩;have hR:=(Tl hB).2.1;have hge:∀(j:Nat) y,k<=j->xs[j]? =some y->x.site<=y.site:=λj y hj hy=>by
   rcases Pj k j with h|h
   ·obtain⟨z,hz⟩:=A9 (xs:=xs) (k:=k) (h:=(by have:=(Aa.1 hy).1;omega));rotate_left;obtain⟨g1,e1⟩:=Aa.1 hz;obtain⟨g2,e2⟩:=Aa.1 hy;have:=Ds.1 hR k j g1 g2 h;rw[e1,e2] at this;have:=hhi z hz;omega
   ·have:j=k:=by omega
    subst this;exact hhi y hy
  obtain⟨e1,e2⟩:=EZ (p:=λy:Hd=>decide (y.site<x.site)) (xs:=xs) (i:=k) (λj y hj hy=>by simpa using hlow j y hj hy) (λj y hj hy=>by simpa using hge j y hj hy);have hins:xs.take k++x::xs.drop k=Is xs x:=by rw[e1,e2];rfl
  have hal:=BV xs x;have hwl:0+k+1+(xs.length- k)=(Is xs x).length:=by omega
  have hwf: []++(xs.take k).flatMap hdL++hdL x++(xs.drop k).flatMap hdL=(Is xs x).flatMap hdL:=by rw[<-hins];simp
  refine Ec (p:=xs.length<=cap) (slF hdL 3 (.slice a xs.length cap) xs) (λA w h=>(JC h).2) λhcap=>?_;refine Pw [slF hdL 3 (.slice a k cap) (xs.take k),slF hdL 3 (.slice (if cap=k then a else a.map (·.add (k*3))) (xs.length- k) (cap- k)) (xs.drop k)] (λA w h f hf=>by
   simp only[Ap,Bw,Ed] at hf;rcases hf with rfl|rfl
   ·exact Xt hk (h (slF hdL 3 (.slice a xs.length cap) xs) tqS)
   ·exact EW hk (h (slF hdL 3 (.slice a xs.length cap) xs) tqS)) ?_
  refine Ao [0,4,6,7,11] (.op 1<|.op 2<|.op 3<| .op 5<| .op 8<|.op 9<|.op 10<| .alt (.op 0<|.alt (.op 4<| .op 6<|.op 7<| .op 11<|.op 12<| .op 13 .z) (.op 6<| .op 4<| .op 7<| .op 11<|.op 12<| .op 13 .z)) (.op 6<| .op 0<| .op 4<| .op 7<| .op 11<|.op 12<| .op 13 .z)) [0] [] [] [] λ_=>?_;refine⟨_,Yq (i:=k) I tqO I I I I,?_⟩;refine⟨_,Ys (i:=k) I hk I I I I,?_⟩;refine⟨?_,?_⟩
  ·refine tqQ ?_;refine⟨?_,?_⟩
   ·refine J6 41 3 [] ?_;intro g;refine Dq 1 (m':=k) (news:=(xs.take k).flatMap hdL) I I I I I I I I I tqD I I I (Qg (enc:=hdL) (ys:=xs.take k) I tqS Dd) (by rw[F8 Dd,Am,C1 hk]) Fs tqO tqM ?_;intro a2 c2;refine tqQ<|tqQ<|Dq 1 (m':=1) (news:=hdL x) I I I I I I I I I tqD I I I (Uq (news:=hdL x) I I) I (λv hv=>Fs (xs:=[x]) v (by simpa using hv)) tqO tqM ?_;intro a3 c3;refine tqQ<|Dq 1 (m':=xs.length- k) (news:=(xs.drop k).flatMap hdL) I I I I I I I I I tqD I I I (Qg (enc:=hdL) (ys:=xs.drop k) I tqS Dd) (by rw[F8 Dd,Bn]) Fs tqO tqM ?_;intro a4 c4;refine tqQ ?_;rw[hwl,hwf];refine Dj (D8 (j:=1) (v:=.slice a4 (Is xs x).length c4) (m:=(Is xs x).length) (enc:=hdL) (xs:=Is xs x) (.inl I) Dd I I) ?_;exact Al [slF hdL 3 (.slice a4 (Is xs x).length c4) (Is xs x)] I2 λ_=>⟨a4,c4,I,I⟩
   ·refine tqQ<|J6 41 3 [] ?_;intro g;refine Dq 1 (m':=k) (news:=(xs.take k).flatMap hdL) I I I I I I I I I tqD I I I (Qg (enc:=hdL) (ys:=xs.take k) I tqS Dd) (by rw[F8 Dd,Am,C1 hk]) Fs tqO tqM ?_;intro a2 c2;refine tqQ<|Dq 1 (m':=1) (news:=hdL x) I I I I I I I I I tqD I I I (Uq (news:=hdL x) I I) I (λv hv=>Fs (xs:=[x]) v (by simpa using hv)) tqO tqM ?_;intro a3 c3;refine tqQ<|Dq 1 (m':=xs.length- k) (news:=(xs.drop k).flatMap hdL) I I I I I I I I I tqD I I I (Qg (enc:=hdL) (ys:=xs.drop k) I tqS Dd) (by rw[F8 Dd,Bn]) Fs tqO tqM ?_;intro a4 c4;refine tqQ ?_;rw[hwl,hwf];refine Dj (D8 (j:=1) (v:=.slice a4 (Is xs x).length c4) (m:=(Is xs x).length) (enc:=hdL) (xs:=Is xs x) (.inl I) Dd I I) ?_;exact Al [slF hdL 3 (.slice a4 (Is xs x).length c4) (Is xs x)] I2 λ_=>⟨a4,c4,I,I⟩
  ·refine tqQ<|tqQ<|J6 41 3 [] ?_;intro g;refine Dq 2 (m':=k) (news:=(xs.take k).flatMap hdL) I I I I I I I I I tqD I I I (Qg (enc:=hdL) (ys:=xs.take k) I tqS Dd) (by rw[F8 Dd,Am,C1 hk]) Fs tqO tqM ?_;intro a2 c2;refine tqQ<|Dq 2 (m':=1) (news:=hdL x) I I I I I I I I I tqD I I I (Uq (news:=hdL x) I I) I (λv hv=>Fs (xs:=[x]) v (by simpa using hv)) tqO tqM ?_;intro a3 c3;refine tqQ<|Dq 2 (m':=xs.length- k) (news:=(xs.drop k).flatMap hdL) I I I I I I I I I tqD I I I (Qg (enc:=hdL) (ys:=xs.drop k) I tqS Dd) (by rw[F8 Dd,Bn]) Fs tqO tqM ?_;intro a4 c4;refine tqQ ?_;rw[hwl,hwf];refine Dj (D8 (j:=2) (v:=.slice a4 (Is xs x).length c4) (m:=(Is xs x).length) (enc:=hdL) (xs:=Is xs x) (.inl I) Dd I I) ?_;exact Al [slF hdL 3 (.slice a4 (Is xs x).length c4) (Is xs x)] I2 λ_=>⟨a4,c4,I,I⟩
theorem Aez (n l s me:Int) (x:Tok) (p:Sls) (hx:x.small):Cm prog 92 [.agg #[.int .i64 n,.int .i64 l,.int .i64 s],.agg (G5 x p).toArray,.int .i64 me] [] (Bs x p) (Bd (X9 n l s me x)):=by
 have hR:=Zq n l s x p hx;have hV:X9 n l s me x=bif Fq n l s x&&Fk n me then(match L3 s me x with|some z=>.tuple #[.int .i64 z,.bool true,.int .i64 0]|none=>.tuple #[.int .i64 0,.bool false,.int .i64 0]) else .tuple #[.int .i64 0,.bool false,.int .i64 2]:=I
 generalize X9 n l s me x=V at hV⊢;refine tqm [.g [.v (.int .i64 n),.v (.int .i64 l),.v (.int .i64 s)],.g (Ps x p),.o (.v (.int .i64 me))] func92 ntmps92 λ_ _=>?_;refine tqc I5 (λ_=>hR) (hF0:=by simp[Bs]) ?_;cases hB:Fq n l s x
 ·rw[hB,Hb,By] at hV;subst hV;exact tqE
 rw[hB,C8] at hV;refine Ai (λg1=>?_) λg1=>?_
 ·rw[show Fk n me=false by simp[Fk];omega,By] at hV;subst hV;exact tqE
 refine Ai (λg2=>?_) λg2=>?_
 ·rw[show Fk n me=false by simp[Fk];omega,By] at hV;subst hV;exact tqE
 rw[show Fk n me=true by simp[Fk];omega,Ci] at hV;obtain⟨h1,h2,h3,_⟩:=Lr hB;have hsh:=In h1;have hns:=Um h1;have hhl:=hx.2.2;refine Br (γ:=Nat) (λk=>k<=x.hs.length/\∀(j:Nat) y,j<k->x.hs[j]? =some y->(wrH y&& !(y.site.tdiv s == me))=false) (λk=>[(9,.o (.v (.int .i64 k)))]) (λ_=>[]) (λ_=>[]) (λk=>x.hs.length- k) 0 ⟨Ax _,λj y hj=>by omega⟩ Ac ?_;rintro k ⟨hk,hno⟩;refine Ai (λg3=>?_) λg3=>?_;rotate_left
 ·rw[Ade λj y hy=>hno j y (by have:=(Aa.1 hy).1;omega) hy] at hV;subst hV;exact tqE
 obtain⟨y,hy⟩:=A9 (xs:=x.hs) (k:=k);have hys:=OM hB (Av hy);have hd:=NS (z:=y.site) (s:=s) tqO tqO;have hnx:(wrH y&& !(y.site.tdiv s == me))=false->∀(j:Nat) z,j<k+1->x.hs[j]? =some z->(wrH z&& !(z.site.tdiv s == me))=false:=λh j z hj hz=>by
  rcases Bg.1 hj with h|rfl
  ·exact hno j z h hz
  ·rw[hy] at hz;cases hz;exact h
 refine Ec (slF hdL 3 (.slice p.a3 x.hs.length p.c3) x.hs) (hf:=.tail _ (.tail _ (.head _))) (B1 hy) ?_;rintro ⟨b,off,hab⟩;have hat:∀(j:Nat) u,(hdL y)[j]? =some u->∀A w,(slF hdL 3 (.slice p.a3 x.hs.length p.c3) x.hs).h A w->w.cell? ⟨b,off+k*3+j,none⟩=some u:=λj u hu=>by rw[hab];exact Eg hy hu
 refine Ao [] (tqs 0 19<| .op 19 .z) [0,1] [] [] [slF hdL 3 (.slice p.a3 x.hs.length p.c3) x.hs] (hvf:=λf hf=>by rw[Bc] at hf;subst hf;exact .tail _ (.tail _ (.head _))) λ_=>?_;refine⟨_,Bb (b:=b) (off:=off) (m:=x.hs.length) (cap:=p.c3) (i:=k) (hx:=by rw[<-hab];rfl),?_⟩;refine⟨_,Ce (slF hdL 3 (.slice p.a3 x.hs.length p.c3) x.hs) (hat 2 _ I),?_⟩;refine A7 (λg4=>?_) λg4=>?_;rotate_left
 ·have h6:wrH y=false:=g4;refine Af (z:=(k+1:Nat)) ?_;exact⟨k+1,⟨tqO,hnx (by rw[h6];rfl)⟩,tqP,Ac⟩
 have h6:wrH y=true:=g4;refine⟨_,Bb (b:=b) (off:=off) (m:=x.hs.length) (cap:=p.c3) (i:=k) (hx:=by rw[<-hab];rfl),?_⟩;refine⟨_,Ce (slF hdL 3 (.slice p.a3 x.hs.length p.c3) x.hs) (hat 0 _ I),?_⟩;refine⟨_,L5 (r:=y.site.tdiv s) tqO hd.1 hd.2 I I I I,?_⟩;refine A7 (λg5=>?_) λg5=>?_;rotate_left
 ·have h7:(y.site.tdiv s == me)=true:=by simpa using g5
  refine Af (z:=(k+1:Nat)) ?_;exact⟨k+1,⟨tqO,hnx (by rw[h6,h7];rfl)⟩,tqP,Ac⟩
 have h7:(y.site.tdiv s == me)=false:=by simpa using g5
 rw[Agw h2 hy h6 h7] at hV;refine Ao [] (tqs 0 11<| .op 11 .z) [0,1] [] [] [slF hdL 3 (.slice p.a3 x.hs.length p.c3) x.hs] (hvf:=λf hf=>by rw[Bc] at hf;subst hf;exact .tail _ (.tail _ (.head _))) λ_=>?_;refine⟨_,Bb (b:=b) (off:=off) (m:=x.hs.length) (cap:=p.c3) (i:=k) (hx:=by rw[<-hab];rfl),?_⟩;refine⟨_,Ce (slF hdL 3 (.slice p.a3 x.hs.length p.c3) x.hs) (hat 0 _ I),?_⟩;refine⟨_,L5 (r:=y.site.tdiv s) tqO hd.1 hd.2 I I I I,?_⟩;subst hV;exact tqE
theorem UF (n l s lim:Int) (x:Tok) (p:Sls) (hx:x.small):Cm prog 94 [.agg #[.int .i64 n,.int .i64 l,.int .i64 s],.agg (G5 x p).toArray,.int .i64 lim] [] (Bs x p) (XW (Vl n l s lim x)):=by
 have hR:=Zq n l s x p hx;have hCp:=IY lim;have hCo:=BB x p hx;have hV:Vl n l s lim x=(bif Fq n l s x&&O1 lim then(match Kt lim x.q (Et x.hs) with|some u=>(Ol x u,Dv u,true,0)|none=>(x,hdZ,false,0)) else(Fd,hdZ,false,2):Tok×Hd×Bool×Int):=I;generalize Vl n l s lim x=V at hV⊢;refine tqm [.g [.v (.int .i64 n),.v (.int .i64 l),.v (.int .i64 s)],.g (Ps x p),.o (.v (.int .i64 lim))] func94 ntmps94 λ_ _=>?_;refine tqc I5 (λ_=>hR) (hF0:=by simp[Bs]) ?_;cases hB:Fq n l s x
 ·rw[hB,Hb,By] at hV;subst hV;refine Eh (Bs Fd Dx) (λA w _ f hf=>Ib f hf) ?_;exact Al (Bs Fd Dx) I2 λ_=>⟨Dx,I,I⟩
 rw[hB,C8] at hV;refine tqc I5 (λ_=>hCp) ?_;cases hC:O1 lim
 ·rw[hC,By] at hV;subst hV;refine Eh (Bs Fd Dx) (λA w _ f hf=>Ib f hf) ?_;exact Al (Bs Fd Dx) I2 λ_=>⟨Dx,I,I⟩
 rw[hC,Ci] at hV;obtain⟨h1,h2,h3,_,hW⟩:=Lr hB;refine Aj [] [] I7 (λ_=>hCo) ?_;rintro e cs F1 _ ⟨p',rfl,rfl⟩;have hml:(Et x.hs).length=x.hs.length:=by simp[Et]
 have hMo:=HN p'.a3 p'.c3 x.hs hx.2.2;have hNx:=λa c=>Ae1 lim p'.a2 p'.c2 x.q a c (Et x.hs) hx.2.1 (by rw[hml];exact hx.2.2);simp only[hml] at hNx;refine Ao [5,6] (tqs 0 11<| .op 11 .z) [4] [] [] [] λ_=>?_;refine Aj [] [] I7 (λ_=>hMo) (hF0:=by simp[Bs]) ?_;rintro e cs F1 _ ⟨a1,c1,rfl,rfl⟩;refine tqQ<|tqc I5 (λ_=>hNx a1 c1) (hF0:=by simp[Bs]) ?_;cases hu:Kt lim x.q (Et x.hs) with
 |none=>
  rw[hu] at hV;subst hV;exact tqQ<|Al (Bs x p') I2 (λ_=>⟨p',I,I⟩) (hF:=λf hf=>by simp[hf])
 |some u=>
  rw[hu] at hV;subst hV;obtain⟨_,⟨i,hpi,hxi⟩,k3,k4,k5,_⟩:=GrtH.of hB hu;clear hu hNx hMo hCo hR;obtain⟨⟨site,use,mode,prio,age⟩,pos⟩:=u;dsimp only at hpi hxi k4 k5;subst hpi;refine tqQ<|Aj [] [] I7 (λ_=>UE p'.a2 p'.c2 x.q i ⟨site,use,mode,prio,age⟩ hx.2.1 hW hxi) (hF0:=by simp[Bs]) ?_;rintro e cs F1 _ ⟨a5,c5,rfl,rfl⟩;refine Aj [] [] I7 (λ_=>Aew p'.a3 p'.c3 x.hs ⟨site,use,mode⟩ hx.2.2 h2 k3 k4 k5) (hF0:=by simp[Bs]) ?_;rintro e cs F1 _ ⟨a6,c6,rfl,rfl⟩;refine Ao [2,3] (tqs 0 5<| .op 5 .z) [4,6] [(2,2),(3,3)] [] [] λ_=>?_;exact tqQ<|tqQ<|Al (Bs (Ol x ⟨⟨site,use,mode,prio,age⟩,(i:Int)⟩) ⟨p'.a1,p'.c1,a5,c5,a6,c6⟩) I2 (λ_=>⟨⟨p'.a1,p'.c1,a5,c5,a6,c6⟩,I,I⟩) (hF:=λf hf=>by
   simp only[Bs,Ol,Dv,Ej,Ap,Bw,Ed] at hf;rcases hf with rfl|rfl|rfl<;>simp[Bs])
theorem Abj (a:Option Addr) (cap:Nat) (xs:List Slt) (i:Nat) (x:Slt) (hi:i<xs.length) (hl:xs.length<=1000000):Cm prog 257 [.slice a xs.length cap,.int .i64 i,.agg (Bm x).toArray] [] [slF Bm 8 (.slice a xs.length cap) xs] (λe _ F1=>∃a' c',e=.returned (.slice a' xs.length c')/\F1=[slF Bm 8 (.slice a' xs.length c') (xs.set i x)]):=by
 obtain⟨y,hy⟩:=A9 (xs:=xs) (k:=i) (h:=hi);refine tqm [.o (.v (.slice a xs.length cap)),.o (.v (.int .i64 i)),.g ((Bm x).map SV.v)] func257 ntmps257 λ_ _=>?_;refine J6 8 8 [] ?_;intro g;refine Dq 1 (m':=xs.length) (news:=xs.flatMap Bm) I I I I I I I I I tqD I I I (Qg (enc:=Bm) (ys:=xs) I tqS Dy) (F8 Dy xs) Hs tqO tqM ?_;intro a1 c1;rw[Cs,show 0+xs.length=xs.length from Bl _];refine W7 1 I tqO ?_;rintro g rfl;refine Au (Bb (i:=i) (hi:=hi)) ?_;refine Zl (enc:=Bm) (sz:=8) (i:=i) (q:=0) (ys:=Bm x) 1 x I hy Dy I I I I tqO I I tqO I (λv hv=>Hs (xs:=[x]) v (by simpa using hv)) (by simp[Bm]) (by simp[Bm]) ?_;refine Dj (D8 (j:=1) (v:=.slice (some ⟨g,0,none⟩) xs.length c1) (m:=xs.length) (enc:=Bm) (xs:=xs.set i x) (.inl I) Dy tqS I) ?_;exact Al [slF Bm 8 (.slice (some ⟨g,0,none⟩) xs.length c1) (xs.set i x)] I2 λ_=>⟨_,c1,I,I⟩
theorem WR (n l s:Int) (a:Option Addr) (cap:Nat) (xs:List Slt) (k:Nat) (use m:Int) (c:Ctr) (hk:k<xs.length) (hl:xs.length<=1000000) (hS:Jl n l s xs=true) (hC:Ho c=true):Cm prog 167 [.agg #[.int .i64 n,.int .i64 l,.int .i64 s],.slice a xs.length cap,.int .i64 k,.int .i64 use,.int .i64 m,.agg (Ke c).toArray] [] [slF Bm 8 (.slice a xs.length cap) xs] (Afj .i64 (Oj n l s xs k use m c)):=by
 obtain⟨x,hx⟩:=A9 (xs:=xs) (k:=k) (h:=hk);have hR:=LF n l s a cap xs hl;have hT:=O9 c;rw[hS] at hR;rw[hC] at hT;have hG:Oj n l s xs k use m c=bif Ly x use m then(xs.set k (Ya x c),true,0) else(xs,false,0):=by
  unfold Oj;rw[hS,hC,Tu,Ci,Bi tqO,Ej,hx]
 refine tqm [.g [.v (.int .i64 n),.v (.int .i64 l),.v (.int .i64 s)],.o (.v (.slice a xs.length cap)),.o (.v (.int .i64 k)),.o (.v (.int .i64 use)),.o (.v (.int .i64 m)),.g [.v (.int .i64 c.value),.v (.int .i64 c.floor),.v (.int .u64 c.version)]] func167 ntmps167 λ_ _=>?_;refine tqc I5 (λ_=>hR) ?_;refine tqc I5 (λ_=>hT) ?_;refine Ai (λg0=>?_) λg0=>?_
 ·omega
 refine Dk (slF Bm 8 (.slice a xs.length cap) xs) (B1 hx) ?_;rintro ⟨b,off,rfl⟩;refine Au (Bb (i:=k) (hi:=hk)) ?_;refine Au (Cu (vs:=Bm x) (slF Bm 8 (.slice (some ⟨b,off,none⟩) xs.length cap) xs) (Du hx)) ?_;obtain⟨xu,xs1,xm,xp,xd,⟨cv,cf,cn⟩⟩:=x;obtain⟨a,ha⟩:∃a:Option Addr,a=some ⟨b,off,none⟩:=⟨_,I⟩;rw[<-ha];refine A7 (λg1=>?_) λg1=>?_
 ·rw[hG,show Ly ⟨xu,xs1,xm,xp,xd,⟨cv,cf,cn⟩⟩ use m=false by simp at g1;simp[Ly,g1]];refine J6 52 8 [] ?_;intro g;refine Dq 3 (m':=xs.length) (news:=xs.flatMap Bm) I I I I I I I I I tqD I I I (Qg (enc:=Bm) (ys:=xs) I tqS Dy) (F8 Dy xs) Hs tqO tqM ?_;intro a1 c1;rw[Cs,show 0+xs.length=xs.length from Bl _];refine Dj (D8 (j:=3) (v:=.slice a1 xs.length c1) (m:=xs.length) (enc:=Bm) (xs:=xs) (.inl I) Dy I I) ?_;exact Al [slF Bm 8 (.slice a1 xs.length c1) xs] I2 λ_=>⟨a1,c1,I,I⟩
 refine A7 (λg2=>?_) λg2=>?_
 ·rw[hG,show Ly ⟨xu,xs1,xm,xp,xd,⟨cv,cf,cn⟩⟩ use m=false by simp at g2;simp[Ly,g2]];refine J6 52 8 [] ?_;intro g;refine Dq 3 (m':=xs.length) (news:=xs.flatMap Bm) I I I I I I I I I tqD I I I (Qg (enc:=Bm) (ys:=xs) I tqS Dy) (F8 Dy xs) Hs tqO tqM ?_;intro a1 c1;rw[Cs,show 0+xs.length=xs.length from Bl _];refine Dj (D8 (j:=3) (v:=.slice a1 xs.length c1) (m:=xs.length) (enc:=Bm) (xs:=xs) (.inl I) Dy I I) ?_;exact Al [slF Bm 8 (.slice a1 xs.length c1) xs] I2 λ_=>⟨a1,c1,I,I⟩
 refine A7 (λg3=>?_) λg3=>?_
 ·rw[hG,show Ly ⟨xu,xs1,xm,xp,xd,⟨cv,cf,cn⟩⟩ use m=false by simp at g3;simp[Ly,g3]];refine J6 52 8 [] ?_;intro g;refine Dq 3 (m':=xs.length) (news:=xs.flatMap Bm) I I I I I I I I I tqD I I I (Qg (enc:=Bm) (ys:=xs) I tqS Dy) (F8 Dy xs) Hs tqO tqM ?_;intro a1 c1;rw[Cs,show 0+xs.length=xs.length from Bl _];refine Dj (D8 (j:=3) (v:=.slice a1 xs.length c1) (m:=xs.length) (enc:=Bm) (xs:=xs) (.inl I) Dy I I) ?_;exact Al [slF Bm 8 (.slice a1 xs.length c1) xs] I2 λ_=>⟨a1,c1,I,I⟩
 rw[hG,show Ly ⟨xu,xs1,xm,xp,xd,⟨cv,cf,cn⟩⟩ use m=true by simp at g1 g2 g3;simp[Ly,g1,g2,g3],Ci];refine Aj [] [] I7 (λ_=>Abj a cap xs k (Ya ⟨xu,xs1,xm,xp,xd,⟨cv,cf,cn⟩⟩ c) hk hl) ?_;rintro e cs F1 _ ⟨a1,c1,rfl,rfl⟩;exact Al [slF Bm 8 (.slice a1 xs.length c1) (xs.set k (Ya ⟨xu,xs1,xm,xp,xd,⟨cv,cf,cn⟩⟩ c))] I2 λ_=>⟨a1,c1,by simp only[Mr];rfl,by simp only[Mr]⟩
def Om (x:Lck) (p:LckS):List Rw:=[Wi Bv 74 4 x.known p.a4 p.c4,Wi Bm 88 8 x.slots p.a5 p.c5,Wi Bz 104 3 x.tries p.a6 p.c6]
variable {x:Lck}
theorem Aak {p:LckS}:∀f∈C7 x p,f∈Bs x.tok p.tok\/∃r∈Om x p,FK r f:=by
 intro f hf;simp only[C7,Ap,Bw,Ed] at hf;rcases hf with rfl|rfl|rfl|rfl|rfl|rfl
 ·exact .inl (.head _)
 ·exact .inl (.tail _ (.head _))
 ·exact .inl (.tail _ (.tail _ (.head _)))
 ·exact .inr ⟨_,.head _,GA Hh⟩
 ·exact .inr ⟨_,.tail _ (.head _),GA Dy⟩
 ·exact .inr ⟨_,.tail _ (.tail _ (.head _)),GA Fh⟩
theorem HL (x:Lck) (p:LckS) (hx:x.small):Cv prog 8 [.agg (Jd x p).toArray] (C7 x p) (λv Rs F1=>∃p',v=.agg (Jd x p').toArray/\Rs=Om x p'/\F1=Bs x.tok p'.tok):=by
 obtain⟨hx0,hx4,hx5,hx6⟩:=id hx;have hC:=BB x.tok p.tok hx0;unfold C7;unfold Bs at hC;refine tqv [.g [.v (.bool x.tree),.v (.bool x.has),.v (.int .i64 x.tok.age),.v (.slice p.tok.a1 x.tok.seq.length p.tok.c1),.v (.slice p.tok.a2 x.tok.q.length p.tok.c2),.v (.slice p.tok.a3 x.tok.hs.length p.tok.c3),.v (.int .i64 x.tok.c.value),.v (.int .i64 x.tok.c.floor),.v (.int .u64 x.tok.c.version),.v (.int .i64 x.last),.v (.int .i64 x.own.node),.v (.int .i64 x.own.hop),.v (.slice p.a4 x.known.length p.c4),.v (.slice p.a5 x.slots.length p.c5),.v (.slice p.a6 x.tries.length p.c6)]] func8 ntmps8 I I (λ_=>I) λ_ _=>?_;refine Aj [] [] I7 (λ_=>hC) ?_;rintro e cs F1 _ ⟨t,rfl,rfl⟩;refine Rl (σ:=⟨[(1,.o (.p 0 0)),(2,.o (.p 1 0))],[(1,.c ((Jd Ig Ia).map SV.v) 40),(0,.c [.v (.bool x.tree),.v (.bool x.has),.v (.int .i64 x.tok.age),.v (.slice t.a1 x.tok.seq.length t.c1),.v (.slice t.a2 x.tok.q.length t.c2),.v (.slice t.a3 x.tok.hs.length t.c3),.v (.int .i64 x.tok.c.value),.v (.int .i64 x.tok.c.floor),.v (.int .u64 x.tok.c.version),.v (.int .i64 x.last),.v (.int .i64 x.own.node),.v (.int .i64 x.own.hop),.v (.slice p.a4 x.known.length p.c4),.v (.slice p.a5 x.slots.length p.c5),.v (.slice p.a6 x.tries.length p.c6)] 40)],2,[slF Bt 1 (.slice t.a1 x.tok.seq.length t.c1) x.tok.seq,slF wtL 5 (.slice t.a2 x.tok.q.length t.c2) x.tok.q,slF hdL 3 (.slice t.a3 x.tok.hs.length t.c3) x.tok.hs,slF Bv 4 (.slice p.a4 x.known.length p.c4) x.known,slF Bm 8 (.slice p.a5 x.slots.length p.c5) x.slots,slF Bz 3 (.slice p.a6 x.tries.length p.c6) x.tries],λ_=>[]⟩) Ac ?_;refine Ao [0,3,4,7,8,11,13,15,17] (.op 1<|.op 2<| .op 5<|.op 6<| .op 9<|.op 10<| .alt (.op 0<|.alt (.op 3<|.op 12<|.alt (.op 4<|.alt (.op 7<|.op 8<| .op 11<| tqs 13 4<| .op 17 .z) (.op 8<| .op 7<| .op 11<| tqs 13 4<| .op 17 .z)) (.op 8<| .op 4<| .op 7<| .op 11<| tqs 13 4<| .op 17 .z)) (.alt (.op 4<|.alt (.op 3<|.op 12<|.alt (.op 7<|.op 8<| .op 11<| tqs 13 4<| .op 17 .z) (.op 8<| .op 7<| .op 11<| tqs 13 4<| .op 17 .z)) (.op 8<| .op 3<| .op 12<| .op 7<| .op 11<| tqs 13 4<| .op 17 .z)) (.op 8<|.alt (.op 3<| .op 12<| .op 4<| .op 7<| .op 11<| tqs 13 4<| .op 17 .z) (.op 4<| .op 3<| .op 12<| .op 7<| .op 11<| tqs 13 4<| .op 17 .z)))) (.alt (.op 4<|.alt (.op 0<|.alt (.op 3<|.op 12<|.alt (.op 7<|.op 8<| .op 11<| tqs 13 4<| .op 17 .z) (.op 8<| .op 7<| .op 11<| tqs 13 4<| .op 17 .z)) (.op 8<| .op 3<| .op 12<| .op 7<| .op 11<| tqs 13 4<| .op 17 .z)) (.op 8<| .op 0<| .op 3<| .op 12<| .op 7<| .op 11<| tqs 13 4<| .op 17 .z)) (.op 8<|.alt (.op 0<|.alt (.op 3<| .op 12<| .op 4<| .op 7<| .op 11<| tqs 13 4<| .op 17 .z) (.op 4<| .op 3<| .op 12<| .op 7<| .op 11<| tqs 13 4<| .op 17 .z)) (.op 4<| .op 0<| .op 3<| .op 12<| .op 7<| .op 11<| tqs 13 4<| .op 17 .z)))) [0] [(13,0),(15,0),(17,0)] [] [] λ_=>?_;refine⟨?_,?_⟩
 ·refine tqq ?_;refine⟨?_,?_⟩
  ·refine B0 7 2 Bv Hh My ?_;intro g1 x4 y4;refine tqq ?_;refine⟨?_,?_⟩
   ·refine tqq ?_;refine⟨?_,?_⟩
    ·refine B0 11 3 Bm Dy Hs ?_;intro g2 x5 y5;refine tqq<|tqq<|B0 15 4 Bz Fh Jf ?_;intro g3 x6 y6;exact tqq<|tqQ<|tqQ<|tqQ<|Fj [2,3,4] (Om x ⟨t,x4,y4,x5,y5,x6,y6⟩) (Bs x.tok t) I ⟨I,I,I,trivial⟩ (λ_=>⟨⟨t,x4,y4,x5,y5,x6,y6⟩,I,I,I⟩) (hF:=by simp[Bs])
    ·refine tqq<|B0 11 3 Bm Dy Hs ?_;intro g2 x5 y5;refine tqq<|B0 15 4 Bz Fh Jf ?_;intro g3 x6 y6;exact tqq<|tqQ<|tqQ<|tqQ<|Fj [2,3,4] (Om x ⟨t,x4,y4,x5,y5,x6,y6⟩) (Bs x.tok t) I ⟨I,I,I,trivial⟩ (λ_=>⟨⟨t,x4,y4,x5,y5,x6,y6⟩,I,I,I⟩) (hF:=by simp[Bs])
   ·refine tqq<|tqq<|B0 11 4 Bm Dy Hs ?_;intro g2 x5 y5;refine tqq<|B0 15 3 Bz Fh Jf ?_;intro g3 x6 y6;exact tqq<|tqQ<|tqQ<|tqQ<|Fj [2,4,3] (Om x ⟨t,x4,y4,x5,y5,x6,y6⟩) (Bs x.tok t) I ⟨I,I,I,trivial⟩ (λ_=>⟨⟨t,x4,y4,x5,y5,x6,y6⟩,I,I,I⟩) (hF:=by simp[Bs])
  ·refine⟨?_,?_⟩
   ·refine tqq ?_;refine⟨?_,?_⟩
    ·refine B0 7 2 Bv Hh My ?_;intro g1 x4 y4;refine tqq ?_;refine⟨?_,?_⟩
     ·refine B0 11 3 Bm Dy Hs ?_;intro g2 x5 y5;refine tqq<|tqq<|B0 15 4 Bz Fh Jf ?_;intro g3 x6 y6;exact tqq<|tqQ<|tqQ<|tqQ<|Fj [2,3,4] (Om x ⟨t,x4,y4,x5,y5,x6,y6⟩) (Bs x.tok t) I ⟨I,I,I,trivial⟩ (λ_=>⟨⟨t,x4,y4,x5,y5,x6,y6⟩,I,I,I⟩) (hF:=by simp[Bs])
     ·refine tqq<|B0 11 3 Bm Dy Hs ?_;intro g2 x5 y5;refine tqq<|B0 15 4 Bz Fh Jf ?_;intro g3 x6 y6;exact tqq<|tqQ<|tqQ<|tqQ<|Fj [2,3,4] (Om x ⟨t,x4,y4,x5,y5,x6,y6⟩) (Bs x.tok t) I ⟨I,I,I,trivial⟩ (λ_=>⟨⟨t,x4,y4,x5,y5,x6,y6⟩,I,I,I⟩) (hF:=by simp[Bs])
    ·refine tqq<|B0 7 2 Bv Hh My ?_;intro g1 x4 y4;refine tqq<|B0 11 3 Bm Dy Hs ?_;intro g2 x5 y5;refine tqq<|B0 15 4 Bz Fh Jf ?_;intro g3 x6 y6;exact tqq<|tqQ<|tqQ<|tqQ<|Fj [2,3,4] (Om x ⟨t,x4,y4,x5,y5,x6,y6⟩) (Bs x.tok t) I ⟨I,I,I,trivial⟩ (λ_=>⟨⟨t,x4,y4,x5,y5,x6,y6⟩,I,I,I⟩) (hF:=by simp[Bs])
   ·refine tqq ?_;refine⟨?_,?_⟩
    ·refine B0 7 2 Bv Hh My ?_;intro g1 x4 y4;refine tqq<|tqq<|B0 11 4 Bm Dy Hs ?_;intro g2 x5 y5;refine tqq<|B0 15 3 Bz Fh Jf ?_;intro g3 x6 y6;exact tqq<|tqQ<|tqQ<|tqQ<|Fj [2,4,3] (Om x ⟨t,x4,y4,x5,y5,x6,y6⟩) (Bs x.tok t) I ⟨I,I,I,trivial⟩ (λ_=>⟨⟨t,x4,y4,x5,y5,x6,y6⟩,I,I,I⟩) (hF:=by simp[Bs])
    ·refine tqq<|B0 7 2 Bv Hh My ?_;intro g1 x4 y4;refine tqq<|B0 11 4 Bm Dy Hs ?_;intro g2 x5 y5;refine tqq<|B0 15 3 Bz Fh Jf ?_;intro g3 x6 y6;exact tqq<|tqQ<|tqQ<|tqQ<|Fj [2,4,3] (Om x ⟨t,x4,y4,x5,y5,x6,y6⟩) (Bs x.tok t) I ⟨I,I,I,trivial⟩ (λ_=>⟨⟨t,x4,y4,x5,y5,x6,y6⟩,I,I,I⟩) (hF:=by simp[Bs])
 ·refine⟨?_,?_⟩
  ·refine tqq ?_;refine⟨?_,?_⟩
   ·refine tqq ?_;refine⟨?_,?_⟩
    ·refine B0 7 3 Bv Hh My ?_;intro g1 x4 y4;refine tqq ?_;refine⟨?_,?_⟩
     ·refine B0 11 2 Bm Dy Hs ?_;intro g2 x5 y5;refine tqq<|tqq<|B0 15 4 Bz Fh Jf ?_;intro g3 x6 y6;exact tqq<|tqQ<|tqQ<|tqQ<|Fj [3,2,4] (Om x ⟨t,x4,y4,x5,y5,x6,y6⟩) (Bs x.tok t) I ⟨I,I,I,trivial⟩ (λ_=>⟨⟨t,x4,y4,x5,y5,x6,y6⟩,I,I,I⟩) (hF:=by simp[Bs])
     ·refine tqq<|B0 11 2 Bm Dy Hs ?_;intro g2 x5 y5;refine tqq<|B0 15 4 Bz Fh Jf ?_;intro g3 x6 y6;exact tqq<|tqQ<|tqQ<|tqQ<|Fj [3,2,4] (Om x ⟨t,x4,y4,x5,y5,x6,y6⟩) (Bs x.tok t) I ⟨I,I,I,trivial⟩ (λ_=>⟨⟨t,x4,y4,x5,y5,x6,y6⟩,I,I,I⟩) (hF:=by simp[Bs])
    ·refine tqq<|B0 7 3 Bv Hh My ?_;intro g1 x4 y4;refine tqq<|B0 11 2 Bm Dy Hs ?_;intro g2 x5 y5;refine tqq<|B0 15 4 Bz Fh Jf ?_;intro g3 x6 y6;exact tqq<|tqQ<|tqQ<|tqQ<|Fj [3,2,4] (Om x ⟨t,x4,y4,x5,y5,x6,y6⟩) (Bs x.tok t) I ⟨I,I,I,trivial⟩ (λ_=>⟨⟨t,x4,y4,x5,y5,x6,y6⟩,I,I,I⟩) (hF:=by simp[Bs])
   ·refine tqq<|tqq<|B0 7 4 Bv Hh My ?_;intro g1 x4 y4;refine tqq<|B0 11 2 Bm Dy Hs ?_;intro g2 x5 y5;refine tqq<|B0 15 3 Bz Fh Jf ?_;intro g3 x6 y6;exact tqq<|tqQ<|tqQ<|tqQ<|Fj [4,2,3] (Om x ⟨t,x4,y4,x5,y5,x6,y6⟩) (Bs x.tok t) I ⟨I,I,I,trivial⟩ (λ_=>⟨⟨t,x4,y4,x5,y5,x6,y6⟩,I,I,I⟩) (hF:=by simp[Bs])
  ·refine tqq ?_;refine⟨?_,?_⟩
   ·refine tqq ?_;refine⟨?_,?_⟩
    ·refine B0 7 3 Bv Hh My ?_;intro g1 x4 y4;refine tqq<|tqq<|B0 11 4 Bm Dy Hs ?_;intro g2 x5 y5;refine tqq<|B0 15 2 Bz Fh Jf ?_;intro g3 x6 y6;exact tqq<|tqQ<|tqQ<|tqQ<|Fj [3,4,2] (Om x ⟨t,x4,y4,x5,y5,x6,y6⟩) (Bs x.tok t) I ⟨I,I,I,trivial⟩ (λ_=>⟨⟨t,x4,y4,x5,y5,x6,y6⟩,I,I,I⟩) (hF:=by simp[Bs])
    ·refine tqq<|B0 7 3 Bv Hh My ?_;intro g1 x4 y4;refine tqq<|B0 11 4 Bm Dy Hs ?_;intro g2 x5 y5;refine tqq<|B0 15 2 Bz Fh Jf ?_;intro g3 x6 y6;exact tqq<|tqQ<|tqQ<|tqQ<|Fj [3,4,2] (Om x ⟨t,x4,y4,x5,y5,x6,y6⟩) (Bs x.tok t) I ⟨I,I,I,trivial⟩ (λ_=>⟨⟨t,x4,y4,x5,y5,x6,y6⟩,I,I,I⟩) (hF:=by simp[Bs])
   ·refine tqq<|tqq<|B0 7 4 Bv Hh My ?_;intro g1 x4 y4;refine tqq<|B0 11 3 Bm Dy Hs ?_;intro g2 x5 y5;refine tqq<|B0 15 2 Bz Fh Jf ?_;intro g3 x6 y6;exact tqq<|tqQ<|tqQ<|tqQ<|Fj [4,3,2] (Om x ⟨t,x4,y4,x5,y5,x6,y6⟩) (Bs x.tok t) I ⟨I,I,I,trivial⟩ (λ_=>⟨⟨t,x4,y4,x5,y5,x6,y6⟩,I,I,I⟩) (hF:=by simp[Bs])
theorem HK (x:Lck) (p:LckS) (hx:x.small):Cm prog 8 [.agg (Jd x p).toArray] [] (C7 x p) (λe _ F1=>∃p',e=.returned (.agg (Jd x p').toArray)/\F1=C7 x p'):=(HL x p hx).cm λ_ _ _ ⟨p',h1,h2,h3⟩=>⟨C7 x p',⟨p',by rw[h1],I⟩,λf hf=>by rw[h2,h3];exact Aak f hf⟩
def Aop (pl:Plc) (x:Lck) (p:LckS):List Value:=[.int .i64 pl.n,.int .i64 pl.l,.int .i64 pl.s,.int .i64 pl.me,.int .i64 pl.lock,.int .i64 pl.limit,.int .i64 pl.retry,.int .i64 pl.far,.int .i64 pl.now,.bool pl.still]++Jd x p++[.slice none 0 0]
theorem Ajj (pl:Plc) (x:Lck) (p:LckS) (hx:x.small):Cm prog 40 [.agg (O8 pl).toArray,.agg (Jd x p).toArray] [] (C7 x p) (λe _ F1=>∃p',e=.returned (.agg (Aop pl x p').toArray)/\F1=C7 x p'):=by
 have hC:=HK x p hx;refine tqm [.g [.v (.int .i64 pl.n),.v (.int .i64 pl.l),.v (.int .i64 pl.s),.v (.int .i64 pl.me),.v (.int .i64 pl.lock),.v (.int .i64 pl.limit),.v (.int .i64 pl.retry),.v (.int .i64 pl.far),.v (.int .i64 pl.now),.v (.bool pl.still)],.g [.v (.bool x.tree),.v (.bool x.has),.v (.int .i64 x.tok.age),.v (.slice p.tok.a1 x.tok.seq.length p.tok.c1),.v (.slice p.tok.a2 x.tok.q.length p.tok.c2),.v (.slice p.tok.a3 x.tok.hs.length p.tok.c3),.v (.int .i64 x.tok.c.value),.v (.int .i64 x.tok.c.floor),.v (.int .u64 x.tok.c.version),.v (.int .i64 x.last),.v (.int .i64 x.own.node),.v (.int .i64 x.own.hop),.v (.slice p.a4 x.known.length p.c4),.v (.slice p.a5 x.slots.length p.c5),.v (.slice p.a6 x.tries.length p.c6)]] func40 ntmps40 λ_ _=>?_;refine Ao [2,4] (tqs 0 4<| .op 4 .z) [0,1] [] [] [] λ_=>?_;refine Aj [] [] I7 (λ_=>hC) ?_;rintro e cs F1 _ ⟨p',rfl,rfl⟩;refine tqQ<|⟨_,Ee,?_⟩;exact tqQ<|Al (C7 x p') I2 (λ_=>⟨p',I,I⟩) (hF:=λf hf=>by simp[hf])
def Tb (x:Lck):Bool:=decide (x.tok.seq.length<=300)&&decide (x.tok.q.length<=300)&&decide (x.tok.hs.length<=300)&&decide (x.known.length<=300)&&decide (x.slots.length<=300)&&decide (x.tries.length<=300)
theorem An1 (x:Lck) (p:LckS):Cm prog 4 [.agg (Jd x p).toArray] [] [] (Bd (.bool (Tb x))):=by
 refine tqm [.g [.v (.bool x.tree),.v (.bool x.has),.v (.int .i64 x.tok.age),.v (.slice p.tok.a1 x.tok.seq.length p.tok.c1),.v (.slice p.tok.a2 x.tok.q.length p.tok.c2),.v (.slice p.tok.a3 x.tok.hs.length p.tok.c3),.v (.int .i64 x.tok.c.value),.v (.int .i64 x.tok.c.floor),.v (.int .u64 x.tok.c.version),.v (.int .i64 x.last),.v (.int .i64 x.own.node),.v (.int .i64 x.own.hop),.v (.slice p.a4 x.known.length p.c4),.v (.slice p.a5 x.slots.length p.c5),.v (.slice p.a6 x.tries.length p.c6)]] func4 ntmps4 λ_ _=>?_;conv=>whnf
 refine Ai (λh1=>?_) λh1=>?_;rotate_left
 ·rw[show Tb x=false by unfold Tb;simp;omega];exact tqE
 conv=>whnf
 refine Ai (λh2=>?_) λh2=>?_;rotate_left
 ·rw[show Tb x=false by unfold Tb;simp;omega];exact tqE
 conv=>whnf
 refine Ai (λh3=>?_) λh3=>?_;rotate_left
 ·rw[show Tb x=false by unfold Tb;simp;omega];exact tqE
 conv=>whnf
 refine Ai (λh4=>?_) λh4=>?_;rotate_left
 ·rw[show Tb x=false by unfold Tb;simp;omega];exact tqE
 conv=>whnf
 refine Ai (λh5=>?_) λh5=>?_;rotate_left
 ·rw[show Tb x=false by unfold Tb;simp;omega];exact tqE
 have e:Tb x=decide ((x.tries.length:Int)<=300):=by
  unfold Tb;rw[Be];simp;omega
 rw[e];exact tqE
def Kx (pl:Plc) (x:Lck) (p:LckS) (lv:Value):List Value:=[.int .i64 pl.n,.int .i64 pl.l,.int .i64 pl.s,.int .i64 pl.me,.int .i64 pl.lock,.int .i64 pl.limit,.int .i64 pl.retry,.int .i64 pl.far,.int .i64 pl.now,.bool pl.still,.bool x.tree,.bool x.has,.int .i64 x.tok.age,.slice p.tok.a1 x.tok.seq.length p.tok.c1,.slice p.tok.a2 x.tok.q.length p.tok.c2,.slice p.tok.a3 x.tok.hs.length p.tok.c3,.int .i64 x.tok.c.value,.int .i64 x.tok.c.floor,.int .u64 x.tok.c.version,.int .i64 x.last,.int .i64 x.own.node,.int .i64 x.own.hop,.slice p.a4 x.known.length p.c4,.slice p.a5 x.slots.length p.c5,.slice p.a6 x.tries.length p.c6,lv]
theorem Ae5 (pl:Plc) (x:Lck) (p:LckS) (lv:Value) (k:Int) (h1:0<=pl.me*pl.s/\pl.me*pl.s<=1000000) (h2:0<=k/\k<=1000000):Cm prog 165 [.agg (Kx pl x p lv).toArray,.int .i64 k] [] [] (Bd (.int .i64 (pl.me*pl.s+k))):=by
 refine tqm [.g ((Kx pl x p lv).map SV.v),.o (.v (.int .i64 k))] func165 ntmps165 λ_ _=>?_;refine Af (z:=pl.me*pl.s) ?_;refine Af (z:=pl.me*pl.s+k) ?_;exact tqE
theorem HO (pl:Plc) (x:Lck) (p:LckS) (lv:Value) (z:Int) (h1:1<=pl.s) (h2:0<=z/\z<=1000000):Cm prog 95 [.agg (Kx pl x p lv).toArray,.int .i64 z] [] [] (Bd (.int .i64 (z.tdiv pl.s))):=by
 have hd:=NS h2 h1;refine tqm [.g ((Kx pl x p lv).map SV.v),.o (.v (.int .i64 z))] func95 ntmps95 λ_ _=>?_;refine B8 (L5 (r:=z.tdiv pl.s) tqO hd.1 hd.2 I I I I) ?_;exact tqE
def YA (pl:Plc) (x:Lck) (p:LckS) (qs:List (Ltr×Sls)):Gx:=λe _ F1=>∃a c,e=.returned (.agg (Kx pl x p (.slice a qs.length c)).toArray)/\F1=[C5 (.slice a qs.length c) qs]
theorem HM (pl:Plc) (x:Lck) (p:LckS) (a:Option Addr) (c:Nat) (qs:List (Ltr×Sls)) (to:Int) (y:Ltr) (s:Sls) (hq:qs.length<=100000):Cm prog 93 [.agg (Kx pl x p (.slice a qs.length c)).toArray,.int .i64 to,.agg (X3 y s).toArray] [] (C5 (.slice a qs.length c) qs::Bs y.tok s) (YA pl x p (qs++[(Gj pl to y,s)])):=by
 refine tqm [.g ((Kx pl x p (.slice a qs.length c)).map SV.v),.o (.v (.int .i64 to)),.g ((X3 y s).map SV.v)] func93 ntmps93 λ_ _=>?_;refine Pw (slF Hg 27 (.slice a qs.length c) qs::C5 (.slice a qs.length c) qs::Bs y.tok s) (λA w h f hf=>by
  rcases Ap.1 hf with rfl|hf
  ·exact Yx (h (C5 (.slice a qs.length c) qs) (.head _))
  ·exact h f hf) ?_
 refine Ao [0,3,7,8,10] (.op 1<|.op 2<| .op 4<|.op 5<|.op 6<| .alt (.op 0<|.alt (.op 3<| .op 7<|.op 8<|.op 9<| .op 10 .z) (.op 7<| .op 3<| .op 8<|.op 9<| .op 10 .z)) (.op 7<| .op 0<| .op 3<| .op 8<|.op 9<| .op 10 .z)) [0,1] [(10,0)] [] [] λ_=>?_;refine⟨_,Ee,?_⟩;refine⟨?_,?_⟩
 ·refine tqQ ?_;refine⟨?_,?_⟩
  ·refine J6 11 27 [] ?_;intro g;refine Dq 3 (m':=qs.length) (news:=qs.flatMap Hg) I I I I I I I I I tqD I I I (Qg (enc:=Hg) (ys:=qs) I tqS Mv) (F8 Mv qs) Rv tqO tqM ?_;intro a1 c1;rw[Cs,show 0+qs.length=qs.length from Bl _];refine tqQ<|tqQ<|Dq 3 (m':=1) (news:=Hg (Gj pl to y,s)) I I I I I I I I I tqD I I I (Uq (news:=Hg (Gj pl to y,s)) I I) I (λv hv=>Rv (qs:=[(Gj pl to y,s)]) v (by simpa using hv)) tqO tqM ?_;intro a2 c2;have hl:qs.length+1=(qs++[(Gj pl to y,s)]).length:=by rw[Az];rfl
   rw[hl];refine tqQ<|tqQ<|Dj (D8 (j:=3) (v:=.slice a2 (qs++[(Gj pl to y,s)]).length c2) (m:=(qs++[(Gj pl to y,s)]).length) (enc:=Hg) (xs:=qs++[(Gj pl to y,s)]) (.inl I) Mv I (by rw[Em];simp only[E1,Nj,Bu];rfl)) ?_;refine Eh [C5 (.slice a2 (qs++[(Gj pl to y,s)]).length c2) (qs++[(Gj pl to y,s)])] (λA w h f hf=>by
    rw[Bc] at hf;subst hf;refine⟨h _ (.head _),λq hq f hf=>?_⟩;rcases B4.1 hq with hq|hq
    ·exact(h (C5 (.slice a qs.length c) qs) tqS).2 q hq f hf
    ·cases Bc.1 hq;exact h f (.tail _ (.tail _ (.tail _ hf)))) ?_
   exact Al [C5 (.slice a2 (qs++[(Gj pl to y,s)]).length c2) (qs++[(Gj pl to y,s)])] I2 λ_=>⟨a2,c2,I,I⟩
  ·refine tqQ<|J6 11 27 [] ?_;intro g;refine Dq 3 (m':=qs.length) (news:=qs.flatMap Hg) I I I I I I I I I tqD I I I (Qg (enc:=Hg) (ys:=qs) I tqS Mv) (F8 Mv qs) Rv tqO tqM ?_;intro a1 c1;rw[Cs,show 0+qs.length=qs.length from Bl _];refine tqQ<|Dq 3 (m':=1) (news:=Hg (Gj pl to y,s)) I I I I I I I I I tqD I I I (Uq (news:=Hg (Gj pl to y,s)) I I) I (λv hv=>Rv (qs:=[(Gj pl to y,s)]) v (by simpa using hv)) tqO tqM ?_;intro a2 c2;have hl:qs.length+1=(qs++[(Gj pl to y,s)]).length:=by rw[Az];rfl
   rw[hl];refine tqQ<|tqQ<|Dj (D8 (j:=3) (v:=.slice a2 (qs++[(Gj pl to y,s)]).length c2) (m:=(qs++[(Gj pl to y,s)]).length) (enc:=Hg) (xs:=qs++[(Gj pl to y,s)]) (.inl I) Mv I (by rw[Em];simp only[E1,Nj,Bu];rfl)) ?_;refine Eh [C5 (.slice a2 (qs++[(Gj pl to y,s)]).length c2) (qs++[(Gj pl to y,s)])] (λA w h f hf=>by
    rw[Bc] at hf;subst hf;refine⟨h _ (.head _),λq hq f hf=>?_⟩;rcases B4.1 hq with hq|hq
    ·exact(h (C5 (.slice a qs.length c) qs) tqS).2 q hq f hf
    ·cases Bc.1 hq;exact h f (.tail _ (.tail _ (.tail _ hf)))) ?_
   exact Al [C5 (.slice a2 (qs++[(Gj pl to y,s)]).length c2) (qs++[(Gj pl to y,s)])] I2 λ_=>⟨a2,c2,I,I⟩
 ·refine tqQ<|tqQ<|J6 11 27 [] ?_;intro g;refine Dq 4 (m':=qs.length) (news:=qs.flatMap Hg) I I I I I I I I I tqD I I I (Qg (enc:=Hg) (ys:=qs) I tqS Mv) (F8 Mv qs) Rv tqO tqM ?_;intro a1 c1;rw[Cs,show 0+qs.length=qs.length from Bl _];refine tqQ<|Dq 4 (m':=1) (news:=Hg (Gj pl to y,s)) I I I I I I I I I tqD I I I (Uq (news:=Hg (Gj pl to y,s)) I I) I (λv hv=>Rv (qs:=[(Gj pl to y,s)]) v (by simpa using hv)) tqO tqM ?_;intro a2 c2;have hl:qs.length+1=(qs++[(Gj pl to y,s)]).length:=by rw[Az];rfl
  rw[hl];refine tqQ<|tqQ<|Dj (D8 (j:=4) (v:=.slice a2 (qs++[(Gj pl to y,s)]).length c2) (m:=(qs++[(Gj pl to y,s)]).length) (enc:=Hg) (xs:=qs++[(Gj pl to y,s)]) (.inl I) Mv I (by rw[Em];simp only[E1,Nj,Bu];rfl)) ?_;refine Eh [C5 (.slice a2 (qs++[(Gj pl to y,s)]).length c2) (qs++[(Gj pl to y,s)])] (λA w h f hf=>by
   rw[Bc] at hf;subst hf;refine⟨h _ (.head _),λq hq f hf=>?_⟩;rcases B4.1 hq with hq|hq
   ·exact(h (C5 (.slice a qs.length c) qs) tqS).2 q hq f hf
   ·cases Bc.1 hq;exact h f (.tail _ (.tail _ (.tail _ hf)))) ?_
  exact Al [C5 (.slice a2 (qs++[(Gj pl to y,s)]).length c2) (qs++[(Gj pl to y,s)])] I2 λ_=>⟨a2,c2,I,I⟩
theorem UG (pl:Plc) (x:Lck) (p:LckS) (a:Option Addr) (c:Nat) (qs:List (Ltr×Sls)) (h:Hd) (hq:qs.length<=100000) (h1:1<=pl.s) (h2:0<=h.site/\h.site<=1000000):Cm prog 96 [.agg (Kx pl x p (.slice a qs.length c)).toArray,.agg (hdL h).toArray] [] [C5 (.slice a qs.length c) qs] (YA pl x p (qs++[(G8 x pl h,Dx)])):=by
 have hL:=HM pl x p a c qs (h.site.tdiv pl.s) ⟨0,3,0,h.site,Je,x.tok.age,h.use,h.mode,x.tok.c,Fd⟩ Dx hq;rw[show Gj pl (h.site.tdiv pl.s) ⟨0,3,0,h.site,Je,x.tok.age,h.use,h.mode,x.tok.c,Fd⟩=G8 x pl h from I] at hL;refine tqm [.g ((Kx pl x p (.slice a qs.length c)).map SV.v),.g ((hdL h).map SV.v)] func96 ntmps96 λ_ _=>?_;refine Pw (C5 (.slice a qs.length c) qs::Bs Fd Dx) (λA w h f hf=>by
  rcases Ap.1 hf with rfl|hf
  ·exact h _ (.head _)
  ·exact Ib f hf) ?_
 refine Ao [4,20,21] (tqs 0 4<| tqs 5 15<| .op 4<| .op 20<| .op 21 .z) [0,1] [(21,2)] [] [] λ_=>?_;refine⟨_,Ee,?_⟩;refine tqc I5 (λ_=>HO pl x p (.slice a qs.length c) h.site h1 h2) ?_;refine tqQ<|Aj [] [] I7 (λ_=>hL) ?_;rintro e cs F1 _ ⟨a1,c1,rfl,rfl⟩;exact tqQ<|tqQ<|Al [C5 (.slice a1 (qs++[(G8 x pl h,Dx)]).length c1) (qs++[(G8 x pl h,Dx)])] I2 λ_=>⟨a1,c1,I,I⟩
theorem WS (pl:Plc) (x:Lck) (p:LckS) (al:Option Addr) (ml cl:Nat) (hx:x.small) (H:SetH pl x):Cv prog 91 [.agg (Kx pl x p (.slice al ml cl)).toArray] (C7 x p) (λv Rs F1=>∃p',v=.agg (Kx pl (Dh pl x) p' (.slice al ml cl)).toArray/\Rs=[Wi Bz 104 3 (Dh pl x).tries p'.a6 p'.c6]/\F1=G7 (Dh pl x) p'):=by
 have hC:=HL x p hx;have hL:=LrnH.of H.tok H.known;have hTk:Fq pl.n pl.l pl.s (Gt x.tok x.known)=true:=hL.learn H.tok;have hLn:=λt a4 c4=>Abb pl.n pl.l pl.s x.tok t a4 c4 x.known hx.1 hx.2.1;have hkn:(Fq pl.n pl.l pl.s x.tok&&Hn pl.n pl.l pl.s x.known)=true:=by rw[H.tok,H.known];rfl
 have hpf:=Hm H.place;obtain⟨hs1,hs2,hs3⟩:=Vv.1 H.slots;have htl:=H.tries;have hCt:=(Wo hTk).1;have hTh:=Lr hTk;have hol:=CQ H;have hS:Dh pl x= {x with tok:=Gt x.tok x.known,slots:=slK pl (Gt x.tok x.known) x.slots x.slots.length,tries:=Mw Mt x.tries.length x.tries (K6 pl (Gt x.tok x.known) x.tries.length)}:=I;refine tqv [.g ((Kx pl x p (.slice al ml cl)).map SV.v)] func91 ntmps91 I I (λ_=>I) λ_ _=>?_;refine P1 [] I I I I I (λ_=>I) (hC) (.nil λf hf=>hf) (.inl I) ?_;rintro v Rs F1 ⟨⟨⟨b1,d1,b2,d2,b3,d3⟩,a4,c4,a5,c5,a6,c6⟩,rfl,rfl,rfl⟩;refine O6 (D8 (j:=2) (v:=.slice a4 x.known.length c4) (m:=x.known.length) (enc:=Bv) (xs:=x.known) (.inl I) Hh I I) ?_;refine O6 (D8 (j:=3) (v:=.slice a5 x.slots.length c5) (m:=x.slots.length) (enc:=Bm) (xs:=x.slots) (.inl I) Dy I I) ?_;refine Aj [] [] I7 (λ_=>hLn ⟨b1,d1,b2,d2,b3,d3⟩ a4 c4) (hF0:=by simp[Bs]) ?_;rintro e cs F1 _ (⟨_,⟨a1,c1,a2,c2,a3,c3⟩,rfl,rfl⟩|⟨hc,_⟩);rotate_left
 ·rw[hkn] at hc;cases hc
 rw[hS];clear hS hLn hL hC;generalize Gt x.tok x.known=tk at*;refine K5 [(3,.o (.v (.int .i64 0))),(1,.o (.p 0 0)),(2,.o (.p 1 0))] [(0,.c ((Kx pl {x with tok:=tk} ⟨⟨a1,c1,a2,c2,a3,c3⟩,a4,c4,a5,c5,a6,c6⟩ (.slice al ml cl)).map SV.v) 118),(4,.own (.slice a6 x.tries.length c6) 104 3 x.tries.length (x.tries.flatMap Bz)),(1,.c ((Kx ⟨0,0,0,0,0,0,0,0,0,false⟩ Ig Ia (.slice none 0 0)).map SV.v) 118)] 5 [slF Bt 1 (.slice a1 tk.seq.length c1) tk.seq,slF wtL 5 (.slice a2 tk.q.length c2) tk.q,slF hdL 3 (.slice a3 tk.hs.length c3) tk.hs,slF Bv 4 (.slice a4 x.known.length c4) x.known,slF Bm 8 (.slice a5 x.slots.length c5) x.slots] (Ac (hF:=λf hf=>by simp only[Ap,Bw,Ed] at hf;rcases hf with rfl|rfl|rfl|rfl|rfl<;>simp[Bs])) ?_;refine Wy 4 I tqO ?_;rintro g rfl;refine Br (γ:=Nat×Option Addr×Nat) (λu=>u.1<=x.slots.length) (λu=>[(3,.o (.v (.int .i64 u.1)))]) (λu=>[(0,.c ((Kx pl {x with tok:=tk,slots:=slK pl tk x.slots u.1} ⟨⟨a1,c1,a2,c2,a3,c3⟩,a4,c4,u.2.1,u.2.2,some ⟨g,0,none⟩,c6⟩ (.slice al ml cl)).map SV.v) 118),(4,.own (.slice (some ⟨g,0,none⟩) x.tries.length c6) 104 3 x.tries.length ((Mw Mt u.1 x.tries (K6 pl tk x.tries.length)).flatMap Bz))]) (λu=>[slF Bm 8 (.slice u.2.1 (slK pl tk x.slots u.1).length u.2.2) (slK pl tk x.slots u.1)]) (λu=>x.slots.length- u.1) (0,a5,c5) (Ax _) ?_ ?_
 ·simp only[slK,AC];exact Ac
 rintro ⟨k,a5,c5⟩ hk;dsimp only at hk⊢;obtain⟨hk1,hk2⟩:=LP H.slots hCt k hk;refine Ai (λh1=>?_) λh1=>?_;rotate_left
 ·dsimp only at h1;obtain rfl:k=x.slots.length:=by omega
  have e:x.slots.length=x.tries.length:=by omega
  have em:(Mw Mt x.tries.length x.tries (K6 pl tk x.tries.length)).length=x.tries.length:=Zg hol.symm;exact Fj [4] [⟨.slice (some ⟨g,0,none⟩) x.tries.length c6,104,3,x.tries.length,(Mw Mt x.slots.length x.tries (K6 pl tk x.tries.length)).flatMap Bz⟩] (G7 {x with tok:=tk,slots:=slK pl tk x.slots x.slots.length,tries:=Mw Mt x.tries.length x.tries (K6 pl tk x.tries.length)} ⟨⟨a1,c1,a2,c2,a3,c3⟩,a4,c4,a5,c5,some ⟨g,0,none⟩,c6⟩) I ⟨I,trivial⟩ (λ_=>⟨⟨⟨a1,c1,a2,c2,a3,c3⟩,a4,c4,a5,c5,some ⟨g,0,none⟩,c6⟩,by unfold Kx;dsimp only;rw[em];rfl,by unfold Wi;dsimp only;rw[em,e],I⟩) (hF:=λf hf=>by
   simp only[G7,Bs,B4,Ap,Bw,Ed] at hf;rcases hf with (rfl|rfl|rfl)|rfl|rfl<;>simp)
 dsimp only at h1;obtain⟨t,ht⟩:=A9 (xs:=x.tries) (k:=k);have hsl3:=hTh.2.2.1;obtain⟨o,ho⟩:=A9 (xs:=tk.seq) (k:=(pl.me*pl.s).toNat+k);have hos:=PE (pl:=pl) (m:=x.tries.length) (k:=k) tqO ho;have hmt:(Mw Mt k x.tries (K6 pl tk x.tries.length))[k]? =some t:=by rw[Yy hol.symm,Ar (Tz _)];exact ht
 have hmk:=EC (f:=Mt) hol.symm ht hos;have hsk:slK pl tk x.slots (k+1)=bif tk.hs.any (C9 (pl.me*pl.s+k)) then(Oj pl.n pl.l pl.s (slK pl tk x.slots k) k (Hk (C9 (pl.me*pl.s+k)) tk.hs).use (Hk (C9 (pl.me*pl.s+k)) tk.hs).mode tk.c).1 else slK pl tk x.slots k:=I
 have hhl:=Uk hTh.2.1;have hFd:=Yl a3 c3 tk.hs (pl.me*pl.s+k) tqO;have hSi:=Ae5 pl {x with tok:=tk,slots:=slK pl tk x.slots k} ⟨⟨a1,c1,a2,c2,a3,c3⟩,a4,c4,a5,c5,some ⟨g,0,none⟩,c6⟩ (.slice al ml cl) k tqO tqO;refine Ec (slF Bt 1 (.slice a1 tk.seq.length c1) tk.seq) (B1 ho) ?_;rintro ⟨b,off,rfl⟩;refine Ao [10,15] (tqs 0 15<| .op 15 .z) [0] [] [] [slF Bt 1 (.slice (some ⟨b,off,none⟩) tk.seq.length c1) tk.seq] λ_=>?_;refine tqc I5 (λ_=>hSi) ?_;refine tqQ<|⟨_,Bb (m:=tk.seq.length) (i:=(pl.me*pl.s).toNat+k) (ho:=I) (he:=I) (hx:=I) (hix:=I) (hz:=tqO),?_⟩;refine⟨_,Ce (slF Bt 1 (.slice (some ⟨b,off,none⟩) tk.seq.length c1) tk.seq) (Eg ho (j:=0) I),?_⟩;refine⟨_,Bb (m:=x.tries.length) (i:=k),?_⟩;refine Zl (enc:=Bz) (sz:=3) (i:=k) (q:=2) (ys:=[.int .i64 o]) 4 (Mt t o) I hmt Fh I I I I tqO I I tqO I (by simp[Value.oneCell']) tqS I ?_;rw[<-hmk];refine tqQ<|Ao [6,7] (tqs 0 8<| .op 8 .z) [0] [] [] [] λ_=>?_;refine tqc I5 (λ_=>hSi) ?_;refine tqQ<|tqc I5 (λ_=>hFd) ?_;refine tqQ ?_;cases hany:tk.hs.any (C9 (pl.me*pl.s+k))
 ·rw[hany,By] at hsk;have h0:¬0<=Hl (C9 (pl.me*pl.s+k)) tk.hs:=by
   rw[<-Hq] at hany;exact Xn hany
  refine Ai (λh2=>?_) λh2=>?_
  ·omega
  refine Af (z:=(k+1:Nat)) ?_;refine⟨(k+1,a5,c5),tqP,tqP,?_⟩;simp only[hsk];exact Ac
 rw[hany,Ci] at hsk;obtain⟨i,y,hi,hy,hys,hf,_⟩:=Za hany;rw[hf] at hsk;rw[hi];have hil:=(Aa.1 hy).1;obtain⟨hg1,hg2,hg3⟩:=DW (k:=k) (use:=y.use) (m:=y.mode) hk1 hCt tqO;have hGr:=WR pl.n pl.l pl.s a5 c5 (slK pl tk x.slots k) k y.use y.mode tk.c tqO tqO hk1 hCt;generalize hgr:Oj pl.n pl.l pl.s (slK pl tk x.slots k) k y.use y.mode tk.c=gr at hGr hg1 hg3 hsk;obtain⟨gs,gb,ge⟩:=gr;dsimp only at hg1 hsk hGr hg3;subst hg1;refine Dk (slF hdL 3 (.slice a3 tk.hs.length c3) tk.hs) (B1 hy) ?_;rintro ⟨b3,off3,rfl⟩;refine Au (Bb (m:=tk.hs.length) (i:=i) (hi:=hil)) ?_;refine Au (Cu (vs:=hdL y) (slF hdL 3 (.slice (some ⟨b3,off3,none⟩) tk.hs.length c3) tk.hs) (Du hy)) ?_;refine Aj [] [] I7 (λ_=>hGr) ?_;rintro e cs F1 _ ⟨a7,c7,rfl,rfl⟩;refine Af (z:=(k+1:Nat)) ?_;refine⟨(k+1,a7,c7),tqP,tqP,?_⟩;simp only[hsk];exact Ac
def Ah6 (pl:Plc) (x:Lck) (qs:List (Ltr×Sls)):Gx:=λe _ F1=>∃p' a c ls,ls.map Prod.fst=(Gu pl 600 x).2/\e=.returned (.agg (Kx pl (Gu pl 600 x).1 p' (.slice a (qs++ls).length c)).toArray)/\F1=C5 (.slice a (qs++ls).length c) (qs++ls)::C7 (Gu pl 600 x).1 p'
theorem Ze {p:LckS} {f:Fact} (h:f∈C7 x p):f∈G7 x p\/f=slF Bz 3 (.slice p.a6 x.tries.length p.c6) x.tries:=by
 simp only[C7,G7,Bs,B4,Ap,Bw,Ed] at h⊢;rcases h with h|h|h|h|h|h<;>simp[h]
theorem JH {p:LckS}:∀f∈Bs x.tok p.tok,f∈G7 x p:=λ_ hf=>Er _ hf
theorem QF (x:Lck) (p:LckS) (pl:Plc) (a:Option Addr) (c:Nat) (qs:List (Ltr×Sls)) (H:SetH pl x) (hla:x.last<=1099511627776) (hq:qs.length<=90000):Cm prog 41 [.agg (Kx pl x p (.slice a qs.length c)).toArray] [] (C5 (.slice a qs.length c) qs::C7 x p) (Ah6 pl x qs):=by
 refine tqm [.g ((Kx pl x p (.slice a qs.length c)).map SV.v)] func41 ntmps41 λ_ _=>?_;refine ID (γ:=Nat×Lck×LckS×Option Addr×Nat×List (Ltr×Sls)) (λg=>SetP pl x g.1 g.2.1 g.2.2.2.2.2/\g.2.1.last=x.last) (λg=>⟨[(1,.o (.p 0 0)),(2,.o (.p 1 0))],[(0,.c ((Kx pl g.2.1 g.2.2.1 (.slice g.2.2.2.1 (qs++g.2.2.2.2.2).length g.2.2.2.2.1)).map SV.v) 118),(1,.c ((Kx ⟨0,0,0,0,0,0,0,0,0,false⟩ Ig Ia (.slice none 0 0)).map SV.v) 118)],2,C5 (.slice g.2.2.2.1 (qs++g.2.2.2.2.2).length g.2.2.2.2.1) (qs++g.2.2.2.2.2)::C7 g.2.1 g.2.2.1,λ_=>[]⟩) (λg=>g.1) (600,x,p,a,c,[]) ⟨SetP.zero H,I⟩ ?_ ?_
 ·simp only[Bu];exact Ac
 rintro ⟨f,y,p1,a1,c1,ls⟩ ⟨HP,hyl⟩;dsimp only at HP hyl⊢;have HH:=HP.h;obtain⟨rs,hrs⟩:∃rs,rs=qs++ls:=⟨_,I⟩;have hrl:rs.length<=95000:=by have:=HP.len;rw[hrs,Az];omega
 rw[<-hrs];have hLn:=WS pl y p1 a1 rs.length c1 HH.small HH;conv=>whnf
 cases hh:y.has
 ·have hE:=HP.off (by rw[hh];rfl);subst hrs;exact Al (C5 (.slice a1 (qs++ls).length c1) (qs++ls)::C7 y p1) I2 λ_=>⟨p1,a1,c1,ls,by rw[hE],by rw[hE];rfl,by rw[hE]⟩
 conv=>whnf
 cases hs:pl.still;rotate_left
 ·have hE:=HP.off (by rw[hh,hs];rfl);subst hrs;exact Al (C5 (.slice a1 (qs++ls).length c1) (qs++ls)::C7 y p1) I2 λ_=>⟨p1,a1,c1,ls,by rw[hE],by rw[hE];rfl,by rw[hE]⟩
 have hon:(!y.has||pl.still)=false:=by rw[hh,hs];rfl
 conv=>whnf
 refine P1 [] I I I I I (λ_=>I) hLn (.nil λf hf=>.tail _ hf) (.inl I) ?_;rintro v Rs F1 ⟨p2,rfl,rfl,rfl⟩;have hZ:=HH.learns;have hzy:(Dh pl y).last=x.last:=hyl;obtain⟨z,hz⟩:∃z,z=Dh pl y:=⟨_,I⟩;rw[<-hz];rw[<-hz] at hZ hzy;have hGo:=Aez pl.n pl.l pl.s pl.me z.tok p2.tok hZ.small.1;refine Ni [(1,.o (.p 0 0)),(2,.o (.p 1 0)),(25,.g [.v (.int .i64 pl.n),.v (.int .i64 pl.l),.v (.int .i64 pl.s)]),(28,.g (Ps z.tok p2.tok)),(31,.o (.v (.int .i64 pl.me)))] [(0,.c ((Kx pl z p2 (.slice a1 rs.length c1)).map SV.v) 118),(1,.c ((Kx ⟨0,0,0,0,0,0,0,0,0,false⟩ Ig Ia (.slice none 0 0)).map SV.v) 118),(2,.own (.slice p2.a6 z.tries.length p2.c6) 104 3 z.tries.length (z.tries.flatMap Bz))] 3 (C5 (.slice a1 rs.length c1) rs::G7 z p2) (Ac (hF:=λf hf=>(Ap.1 hf).elim (λe=>Ch _ (e ▸ .head _)) λh=>Er _ h)) ?_;clear hLn;refine tqc I5 (λ_=>hGo) (hF0:=λf hf=>.tail _ (JH f hf)) ?_;have hnb:Fk pl.n pl.me=true:=by
  have h3:=Hm HH.place;simp[Fk];omega
 have hV:X9 pl.n pl.l pl.s pl.me z.tok=(match L3 pl.s pl.me z.tok with|some z=>.tuple #[.int .i64 z,.bool true,.int .i64 0]|none=>.tuple #[.int .i64 0,.bool false,.int .i64 0]):=by
  unfold X9;rw[hZ.tok,hnb];rfl
 rw[hV];clear hV hnb hGo;have hg:L3 pl.s pl.me (Dh pl y).tok=L3 pl.s pl.me z.tok:=by rw[hz]
 cases hgo:L3 pl.s pl.me z.tok with
 |some to=>
  rw[hgo] at hg;dsimp only;have hag:=(Wo hZ.tok).2;refine A7 (λg1=>?_) λg1=>?_
  ·have hE:=HP.stay hon hg (by rw[<-hz];have:z.last=1099511627776:=(by simpa using g1);omega);rw[<-hz] at hE;subst hrs;refine Dj (D8 (j:=2) (v:=.slice p2.a6 z.tries.length p2.c6) (m:=z.tries.length) (enc:=Bz) (xs:=z.tries) (.inl I) Fh I I) ?_;exact Al (C5 (.slice a1 (qs++ls).length c1) (qs++ls)::C7 z p2) I2 (λ_=>⟨p2,a1,c1,ls,by rw[hE],by rw[hE];rfl,by rw[hE]⟩) (hF:=λf hf=>(Ap.1 hf).elim (λe=>.tail _ (e ▸ .head _)) λh=>(Ze h).elim (λh=>.tail _ (.tail _ h)) λe=>e ▸ .head _)
  have hE:=HP.away hon hg (by rw[<-hz];have:¬z.last=1099511627776:=(by simpa using g1);omega);rw[<-hz] at hE;have htp:0<z.tries.length/\z.tries.length<=4:=by have h1:=Hm HH.place;have h2:=hZ.tries;omega
  refine Af (z:=z.tok.age+1) ?_;refine K5 [(6,.o (.v (.int .i64 0))),(3,.o (.v (.int .i64 to))),(1,.o (.p 0 0)),(2,.o (.p 1 0))] [(0,.c ((Kx pl {z with has:=false,tok:= {z.tok with age:=z.tok.age+1},last:=z.tok.age+1,own:=⟨to,z.tok.age+1⟩} p2 (.slice a1 rs.length c1)).map SV.v) 118),(1,.c ((Kx ⟨0,0,0,0,0,0,0,0,0,false⟩ Ig Ia (.slice none 0 0)).map SV.v) 118),(2,.own (.slice p2.a6 z.tries.length p2.c6) 104 3 z.tries.length (z.tries.flatMap Bz))] 3 (C5 (.slice a1 rs.length c1) rs::G7 z p2) Ac ?_;refine Wy 2 I htp.1 ?_;intro g hg6;refine Br (γ:=Nat) (λk=>k<=z.tries.length) (λk=>[(6,.o (.v (.int .i64 k)))]) (λk=>[(2,.own (.slice p2.a6 z.tries.length p2.c6) 104 3 z.tries.length ((X2 (Qn pl.now) k z.tries).flatMap Bz))]) (λ_=>[]) (λk=>z.tries.length- k) 0 (Ax _) ?_ ?_
  ·rw[EA];exact Ac
  rintro k hk;refine Ai (λh1=>?_) λh1=>?_
  ·dsimp only at h1;obtain⟨t,ht⟩:=A9 (xs:=z.tries) (k:=k);have hmt:=NC (f:=Qn pl.now) ht;have hms:=DZ (f:=Qn pl.now) ht;refine Au (Bb (b:=g) (off:=0) (m:=z.tries.length) (cap:=p2.c6) (i:=k) (hx:=by rw[<-hg6];rfl)) ?_;refine Zl (enc:=Bz) (sz:=3) (i:=k) (q:=1) (ys:=[.int .i64 pl.now]) 2 (Qn pl.now t) (by rw[<-hg6];rfl) hmt Fh I I I I tqO I I htp.1 I (by simp[Value.oneCell']) tqS I ?_;rw[<-hms,<-hg6];refine Af (z:=(k+1:Nat)) ?_;exact⟨k+1,tqO,tqP,Ac⟩
  dsimp only at h1;obtain rfl:k=z.tries.length:=by omega
  rw[IP];have hCp:=BB {z.tok with age:=z.tok.age+1} p2.tok hZ.small.1;refine Ao [5,7,8] (tqs 0 8<| .op 8 .z) [0] [(8,1)] [] [] λ_=>?_;refine Aj [] [] I7 (λ_=>hCp) (hF0:=λf hf=>.tail _ (JH (x:=z) f hf)) ?_;rintro e cs F1 _ ⟨s,rfl,rfl⟩;refine tqQ<|⟨_,Ee,?_⟩;have hLt:=HM pl {z with has:=false,tok:= {z.tok with age:=z.tok.age+1},last:=z.tok.age+1,own:=⟨to,z.tok.age+1⟩} p2 a1 c1 rs to ⟨0,4,0,0,Je,0,0,0,MW,{z.tok with age:=z.tok.age+1}⟩ s tqO;rw[show Gj pl to ⟨0,4,0,0,Je,0,0,0,MW,{z.tok with age:=z.tok.age+1}⟩=Of z pl to from I] at hLt;refine Aj [] [] I7 (λ_=>hLt) (hF0:=λf hf=>(Ap.1 hf).elim (λe=>Ch _ (e ▸ .head _)) λh=>Er _ h) ?_;rintro e cs F1 _ ⟨a2,c2,rfl,rfl⟩;refine tqQ<|tqQ ?_;have hE2:Gu pl 600 x=(K9 z to pl.now,(ls++[(Of z pl to,s)]).map Prod.fst):=by rw[hE,D6];rfl
  clear hE;have hE:=hE2;subst hrs;have hml:(z.tries.map (Qn pl.now)).length=z.tries.length:=Cr _;refine Dj (D8 (j:=2) (v:=.slice p2.a6 z.tries.length p2.c6) (m:=z.tries.length) (enc:=Bz) (xs:=z.tries.map (Qn pl.now)) (.inl I) Fh hml.symm I) ?_;rw[Cp];exact Al (C5 (.slice a2 (qs++(ls++[(Of z pl to,s)])).length c2) (qs++(ls++[(Of z pl to,s)]))::C7 (K9 z to pl.now) p2) I2 (λ_=>⟨p2,a2,c2,ls++[(Of z pl to,s)],by rw[hE],by rw[hE];unfold Kx K9;dsimp only;rw[hml];rfl,by rw[hE]⟩) (hF:=λf hf=>(Ap.1 hf).elim (λe=>.tail _ (e ▸ .head _)) λh=>(Ze h).elim (λh=>by have h2:f∈G7 z p2:=h;simp[h2]) λe=>by
   rw[e,show (K9 z to pl.now).tries.length=z.tries.length from hml];exact .head _)
 |none=>
  rw[hgo] at hg;dsimp only;have hGr:=UF pl.n pl.l pl.s pl.limit z.tok p2.tok hZ.small.1;have hGV:Vl pl.n pl.l pl.s pl.limit z.tok=(match Kt pl.limit z.tok.q (Et z.tok.hs) with|some u=>(Ol z.tok u,Dv u,true,0)|none=>(z.tok,hdZ,false,0)):=by
   unfold Vl;rw[hZ.tok,(Hm HH.place).2.2.2.2.2.2.2];rfl
  rw[hGV] at hGr;clear hGV;refine O6 (D8 (j:=2) (v:=.slice p2.a6 z.tries.length p2.c6) (m:=z.tries.length) (enc:=Bz) (xs:=z.tries) (.inl I) Fh I I) ?_;refine Aj [] [] I7 (λ_=>hGr) (hF0:=λf hf=>.tail _ (.tail _ (JH f hf))) ?_;rintro e cs F1 _ ⟨p3,rfl,rfl⟩;cases hn:Kt pl.limit z.tok.q (Et z.tok.hs) with
  |none=>
   have hE:=HP.no hon hg (by rw[<-hz];exact hn);rw[<-hz] at hE;subst hrs;exact Al (C5 (.slice a1 (qs++ls).length c1) (qs++ls)::C7 z p2) I2 (λ_=>⟨p2,a1,c1,ls,by rw[hE],by rw[hE];rfl,by rw[hE]⟩) (hF:=λf hf=>(Ap.1 hf).elim (λe=>Ch _ (.tail _ (e ▸ .head _))) λh=>(Ze h).elim (λh=>Ch _ (.tail _ (.tail _ h))) λe=>Ch _ (e ▸ .head _))
  |some u=>
   have hSt:=λl2 h2=>HP.step (u:=u) (l2:=l2) hon hg (by rw[<-hz];exact hn) h2;rw[<-hz] at hSt;have hGt:=GrtH.of hZ.tok hn;have hsi:=Rq hGt.hd;have hsn:=(Hm HH.place).2.1.1;dsimp only;obtain⟨P4,hP4⟩:∃P4:LckS,P4=⟨p3,p2.a4,p2.c4,p2.a5,p2.c5,p2.a6,p2.c6⟩:=⟨_,I⟩;have hNd:=HO pl (grT z u) P4 (.slice a1 rs.length c1) (Dv u).site hsn tqO;refine K5 [(1,.o (.p 0 0)),(2,.o (.p 1 0)),(8,.o (.p 4 0))] [(0,.c ((Kx pl (grT z u) P4 (.slice a1 rs.length c1)).map SV.v) 118),(1,.c ((Kx ⟨0,0,0,0,0,0,0,0,0,false⟩ Ig Ia (.slice none 0 0)).map SV.v) 118),(4,.c ((hdL (Dv u)).map SV.v) 170)] 5 (C5 (.slice a1 rs.length c1) rs::C7 (grT z u) P4) (by subst hP4;exact Ac (hF:=λf hf=>(Ap.1 hf).elim (λe=>Ch _ (.tail _ (e ▸ .head _))) λh=>(Ze h).elim (λh=>(B4.1 h).elim (λh=>Er _ h) λh=>Ch _ (.tail _ (.tail _ (Ch _ h)))) λe=>Ch _ (e ▸ .head _))) ?_;refine Ao [7] (tqs 0 7<| .op 8<|.op 9<|.op 10<| .op 7<| .op 11<| .op 12 .z) [0,4] [] [] [] λ_=>?_;refine A7 (λg2=>?_) λg2=>?_;rotate_left
   ·have hl:Ie pl (grT z u) (Dv u)=[]:=by
     unfold Ie;rw[show ((Dv u).mode == 5)=true by simpa using g2,Jz,L6];rfl
    subst hrs;refine⟨(f- 1,grT z u,P4,a1,c1,ls++[]),⟨hSt [] (by rw[hl];rfl),hzy⟩,by have:=HP.pos;dsimp only;omega,?_⟩;simp only[Bu];exact Ac
   have g4:((Dv u).mode == 5)=false:=by simpa using g2
   refine tqc I5 (λ_=>hNd) ?_;refine tqQ<|A7 (λg3=>?_) λg3=>?_;rotate_left
   ·have g5:((Dv u).site.tdiv pl.s == pl.me)=true:=by simpa using g3
    have hl:Ie pl (grT z u) (Dv u)=[]:=by
     unfold Ie;rw[g5,Jz,Hb];rfl
    subst hrs;refine⟨(f- 1,grT z u,P4,a1,c1,ls++[]),⟨hSt [] (by rw[hl];rfl),hzy⟩,by have:=HP.pos;dsimp only;omega,?_⟩;simp only[Bu];exact Ac
   have g5:((Dv u).site.tdiv pl.s == pl.me)=false:=by simpa using g3
   have hl:Ie pl (grT z u) (Dv u)=[G8 (grT z u) pl (Dv u)]:=by
    unfold Ie;rw[g4,g5];rfl
   refine Aj [] [] I7 (λ_=>UG pl (grT z u) P4 a1 c1 rs (Dv u) tqO hsn tqO) (hF0:=λf hf=>Ap.2 (.inl (Bc.1 hf))) ?_;rintro e cs F1 _ ⟨a2,c2,rfl,rfl⟩;subst hrs;refine⟨(f- 1,grT z u,P4,a2,c2,ls++[(G8 (grT z u) pl (Dv u),Dx)]),⟨hSt [(G8 (grT z u) pl (Dv u),Dx)] (by rw[hl];rfl),hzy⟩,by have:=HP.pos;dsimp only;omega,?_⟩;simp only[<-Cp];exact Ac (hF:=λf hf=>(Ap.1 hf).elim (λe=>Ap.2 (.inl e)) λh=>.tail _ (.tail _ h))
theorem Aju:Mf prog 9 35=some [4,4]:=tqK
theorem An7:Ui prog 35=true:=tqK
theorem Al7 (x y:Own):Il [4,4] (X5 x) (X5 y)=some (decide (x=y)):=by
 obtain⟨a,b⟩:=x;obtain⟨d,e⟩:=y;have h:Il [4,4] (X5 ⟨a,b⟩) (X5 ⟨d,e⟩)=some (a == d&&(b == e&&true)):=I;rw[h]
 congr 1
 rw[Be];simp
theorem UI (x y:Lck) (p r:LckS) (hx:x.small) (hy:y.small):Cm prog 13 [.agg (Jd x p).toArray,.agg (Jd y r).toArray] [] (C7 x p++C7 y r) (Bd (.bool (decide (x=y)))):=by
 obtain⟨hx0,hx4,hx5,hx6⟩:=hx;obtain⟨hy0,hy4,hy5,hy6⟩:=hy;unfold C7;obtain⟨tr,ha,tk,la,ow,kn,sl,ti⟩:=x;obtain⟨tr',ha',tk',la',ow',kn',sl',ti'⟩:=y;dsimp only at hx0 hx4 hx5 hx6 hy0 hy4 hy5 hy6;obtain⟨p0,a4,c4,a5,c5,a6,c6⟩:=p;obtain⟨r0,b4,d4,b5,d5,b6,d6⟩:=r;refine tqm [.g [.v (.bool tr),.v (.bool ha),.v (.int .i64 tk.age),.v (.slice p0.a1 tk.seq.length p0.c1),.v (.slice p0.a2 tk.q.length p0.c2),.v (.slice p0.a3 tk.hs.length p0.c3),.v (.int .i64 tk.c.value),.v (.int .i64 tk.c.floor),.v (.int .u64 tk.c.version),.v (.int .i64 la),.v (.int .i64 ow.node),.v (.int .i64 ow.hop),.v (.slice a4 kn.length c4),.v (.slice a5 sl.length c5),.v (.slice a6 ti.length c6)],.g [.v (.bool tr'),.v (.bool ha'),.v (.int .i64 tk'.age),.v (.slice r0.a1 tk'.seq.length r0.c1),.v (.slice r0.a2 tk'.q.length r0.c2),.v (.slice r0.a3 tk'.hs.length r0.c3),.v (.int .i64 tk'.c.value),.v (.int .i64 tk'.c.floor),.v (.int .u64 tk'.c.version),.v (.int .i64 la'),.v (.int .i64 ow'.node),.v (.int .i64 ow'.hop),.v (.slice b4 kn'.length d4),.v (.slice b5 sl'.length d5),.v (.slice b6 ti'.length d6)]] func13 ntmps13 λ_ _=>?_;obtain⟨Z,hZ⟩:∃Z:Bool,Z=decide ((⟨tr,ha,tk,la,ow,kn,sl,ti⟩:Lck)=⟨tr',ha',tk',la',ow',kn',sl',ti'⟩):=⟨_,I⟩;rw[<-hZ];simp only[Lck.mk.injEq] at hZ;conv=>whnf
 refine B8 (R9 tqK I I I I) ?_;cases h1:(tr == tr')
 ·rw[show Z=false by rw[hZ];simp at h1;simp[h1]];exact tqE
 conv=>whnf
 refine B8 (R9 tqK I I I I) ?_;cases h2:(ha == ha')
 ·rw[show Z=false by rw[hZ];simp at h2;simp[h2]];exact tqE
 conv=>whnf
 refine A7 (λh3=>?_) λh3=>?_;rotate_left
 ·have h3:la≠la':=by simpa using h3
  rw[show Z=false by rw[hZ];simp[h3]];exact tqE
 have h3:la=la':=by simpa using h3
 conv=>whnf
 refine B8 (Zy (xs:=X5 ow) (ys:=X5 ow') (r:=decide (ow=ow')) (ks:=[4,4]) Aju An7 I I I (λ_=>I) (λ_=>I) (Al7 _ _)) ?_;cases h4:decide (ow=ow')
 ·rw[show Z=false by simp at h4;rw[hZ];simp[h4]];exact tqE
 conv=>whnf
 refine tqc I5 (λ_=>Zp tk tk' p0 r0 hx0 hy0) (hF0:=by simp[Bs]) ?_;cases h5:decide (tk=tk')
 ·rw[show Z=false by simp at h5;rw[hZ];simp[h5]];exact tqE
 conv=>whnf
 refine tqc I5 (λ_=>UL a4 b4 c4 d4 kn kn' hx4 hy4) ?_;cases h6:decide (kn=kn')
 ·rw[show Z=false by simp at h6;rw[hZ];simp[h6]];exact tqE
 conv=>whnf
 refine tqc I5 (λ_=>UK a5 b5 c5 d5 sl sl' hx5 hy5) ?_;cases h7:decide (sl=sl')
 ·rw[show Z=false by simp at h7;rw[hZ];simp[h7]];exact tqE
 conv=>whnf
 refine tqc I5 (λ_=>UM a6 b6 c6 d6 ti ti' hx6 hy6) ?_;rw[show Z=decide (ti=ti') by simp at h1 h2 h4 h5 h6 h7;rw[hZ];simp[h1,h2,h3,h4,h5,h6,h7]];exact tqE
theorem QW (z:Int):Cm prog 9 [.int .i64 z] [] [] (Bd (.int .i64 z)):=by
 refine tqm [.o (.v (.int .i64 z))] func9 ntmps9 λ_ _=>?_;exact tqE
theorem Xq (x:Lck) (p r:LckS) (hx:x.small):Cm prog 13 [.agg (Jd x p).toArray,.agg (Jd x r).toArray] [] (C7 x p++C7 x r) (Bd (.bool true)):=by
 have:=UI x x p r hx hx;rwa[D4 (rfl:x=x)] at this
theorem Ac1 (h:Tb x=true):x.small:=by
 unfold Tb at h;simp at h;refine⟨⟨?_,?_,?_⟩,?_,?_,?_⟩<;>omega
theorem AB {pl:Plc} (h:Pe pl x=true) (hh:x.has=true):SetH pl x/\x.last<=1099511627776:=by
 simp only[Pe,Ru,Ad] at h;obtain⟨⟨⟨⟨h1,⟨h2,h3⟩,_⟩,h4⟩,_⟩,h5⟩:=h;simp only[AS,hh,Jz,Hb,By,Ad,Aq] at h5;simp only[Tq,Ad,Aq] at h4;have:=(Wo h5.2).2;exact⟨⟨h1,h2,h3,h5.2,h4.1⟩,tqO⟩
theorem AL {pl:Plc} (h:x.has=false):Gu pl 600 x=(x,[]):=by
 have e:∀n,Gu pl (n+1) x=(x,[]):=λn=>by rw[Gu,h];rfl
 exact e 599
def Qe (pl:Plc) (x:Lck):Lck×List Ltr×Int:=bif Pe pl x then((Gu pl 600 x).1,(Gu pl 600 x).2,0) else(Ig,[],2)
def Amk (ki:IntKind) (r:Lck×List Ltr×Int):Gx:=λe _ F1=>∃p' a c ls,ls.map Prod.fst=r.2.1/\e=.returned (.tuple #[.agg (Jd r.1 p').toArray,.slice a ls.length c,.int ki r.2.2])/\F1=C5 (.slice a ls.length c) ls::C7 r.1 p'
theorem UO (x:Lck) (p:LckS) (pl:Plc) (a:Option Addr) (c:Nat) (qs:List (Ltr×Sls)) (hh:x.has=false):Cm prog 41 [.agg (Kx pl x p (.slice a qs.length c)).toArray] [] (C5 (.slice a qs.length c) qs::C7 x p) (Ah6 pl x qs):=by
 have hE:=AL (pl:=pl) hh;obtain⟨tree,has,tok,last,own,known,slots,tries⟩:=x;dsimp only at hh;subst hh;refine tqm [.g ((Kx pl ⟨tree,false,tok,last,own,known,slots,tries⟩ p (.slice a qs.length c)).map SV.v)] func41 ntmps41 λ_ _=>?_;refine Hj 1 ?_;exact Al (C5 (.slice a qs.length c) qs::C7 ⟨tree,false,tok,last,own,known,slots,tries⟩ p) I2 λ_=>⟨p,a,c,[],by rw[hE];rfl,by rw[hE,Bu];rfl,by rw[hE,Bu]⟩
theorem UN (x:Lck) (p:LckS) (pl:Plc) (a:Option Addr) (c:Nat) (qs:List (Ltr×Sls)) (H:x.has=true->SetH pl x/\x.last<=1099511627776) (hq:qs.length<=90000):Cm prog 41 [.agg (Kx pl x p (.slice a qs.length c)).toArray] [] (C5 (.slice a qs.length c) qs::C7 x p) (Ah6 pl x qs):=by
 cases hh:x.has
 ·exact UO x p pl a c qs hh
 ·exact QF x p pl a c qs (H hh).1 (H hh).2 hq
theorem Abh (pl:Plc) (x:Lck) (p:LckS) (hx:x.small):Cm prog 12 [.agg (O8 pl).toArray,.agg (Jd x p).toArray] [] (C7 x p) (Amk .i64 (Qe pl x)):=by
 have hR:=EO pl x p hx;have hG:=Ajj pl x p hx;refine tqm [.g ((O8 pl).map SV.v),.g ((Jd x p).map SV.v)] func12 ntmps12 λ_ _=>?_;refine tqc I5 (λ_=>hR) ?_;cases hB:Pe pl x
 ·rw[show Qe pl x=(Ig,[],2) by unfold Qe;rw[hB];rfl];refine Eh (C5 (.slice none 0 0) []::C7 Ig Ia) (λA w _ f hf=>(Ap.1 hf).elim (λe=>e ▸ CG) λh=>So f h) ?_;exact Al (C5 (.slice none 0 0) []::C7 Ig Ia) I2 λ_=>⟨Ia,none,0,[],I,I,I⟩
 refine Aj [] [] I7 (λ_=>hG) ?_;rintro e cs F1 _ ⟨p',rfl,rfl⟩;have hS:=UN x p' pl none 0 [] (λhh=>AB hB hh) tqS;refine Oq (C5 (.slice none 0 0) []::C7 x p') (λA w h f hf=>(Ap.1 hf).elim (λe=>e ▸ CG) λhf=>h f (by simp[hf])) ?_;refine Aj [] [] I7 (λ_=>hS) ?_;rintro e cs F1 _ ⟨p2,a1,c1,ls,e1,rfl,rfl⟩;rw[Cs];have e2:Qe pl x=((Gu pl 600 x).1,(Gu pl 600 x).2,0):=by unfold Qe;rw[hB];rfl
 rw[e2];generalize Gu pl 600 x=r at*;refine Ao [4] (tqs 0 6<| .op 6 .z) [3] [(4,2)] [] [] λ_=>?_;exact tqQ<|Al (C5 (.slice a1 ls.length c1) ls::C7 r.1 p2) I2 (λ_=>⟨p2,a1,c1,ls,e1,I,I⟩) (hF:=λf hf=>Er _ hf)
end Go.Proofs.YtjofafbkkpdgbaaGreat
