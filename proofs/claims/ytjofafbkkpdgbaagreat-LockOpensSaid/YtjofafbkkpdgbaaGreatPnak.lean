/- A part of the proof of LockOpens: rules and contracts. No condition. -/
import Derived.Test.YtjofafbkkpdgbaaGreatPnaj
set_option maxRecDepth 100000
set_option maxHeartbeats 4000000
set_option linter.all false
namespace Go.Proofs.YtjofafbkkpdgbaaGreat
open Go.Proofs.Tryz
open Go.RowKit Go.Shelf
def Ace (xs:List Wt):Int:=bif D5 xs then 0 else 2
theorem XH (a:Option Addr) (cap:Nat) (xs:List Wt):Cm prog 316 [.slice a xs.length cap] [] [slF wtL 5 (.slice a xs.length cap) xs] (Bd (.int .i64 (Ace xs))):=by
 refine tqm [.o (.v (.slice a xs.length cap))] func316 ntmps316 λ_ _=>?_;refine tqc I5 (λ_=>Q0 a cap xs) ?_;unfold Ace;cases h:D5 xs
 ·exact tqE
 ·exact tqE
def Md (xs:List Wt) (z:Int):Int:=Hl (λx=>x.site == z) xs
variable {F0:List Fact} {a:Option Addr} {cap:Nat} {lb:List Value}
theorem SQ {g:Nat} (hg:Ah tb.fn g=some ()) (p:Wt->Bool) {xs:List Wt} (hlen:xs.length<=1099511627776) (hc:∀x∈xs,Cm prog g (.agg (wtL x).toArray::lb) [] F0 (Bd (.bool (p x)))):
  Cm prog 285 [.slice a xs.length cap,.func (.func g) #[] lb.toArray] [] (slF wtL 5 (.slice a xs.length cap) xs::F0) (Bd (.int .i64 (Hl p xs))):=by
 refine tqm [.o (.v (.slice a xs.length cap)),.o (.v (.func (.func g) #[] lb.toArray))] func285 ntmps285 λ_ _=>?_;refine Br (γ:=Nat) (λk=>k<=xs.length/\∀(j:Nat) x,j<k->xs[j]? =some x->p x=false) (λk=>[(8,.o (.v (.int .i64 k)))]) (λ_=>[]) (λ_=>[]) (λk=>xs.length- k) 0 ⟨Ax _,λj x hj=>by omega⟩ Ac ?_;rintro k ⟨hk,hno⟩;refine Ai (λh1=>?_) λh1=>?_
 ·obtain⟨x,hx⟩:=A9 (xs:=xs) (k:=k)
  skip
  refine Dk (slF wtL 5 (.slice a xs.length cap) xs) (B1 hx) ?_;rintro ⟨b,off,rfl⟩;refine Au Bb ?_;refine Au (Cu (vs:=wtL x) (slF wtL 5 (.slice (some ⟨b,off,none⟩) xs.length cap) xs) (Du hx)) ?_;have hc2:∀ρ:Nm,Cm prog g (Gn ρ [] [TV.g [.v (.int .i64 x.site),.v (.int .i64 x.use),.v (.int .i64 x.mode),.v (.int .i64 x.prio),.v (.int .i64 x.age)]] (lb.map PV.v)) [] F0 (Bd (.bool (p x))):=λρ=>by
   have e:Gn ρ [] [TV.g [.v (.int .i64 x.site),.v (.int .i64 x.use),.v (.int .i64 x.mode),.v (.int .i64 x.prio),.v (.int .i64 x.age)]] (lb.map PV.v)=.agg (wtL x).toArray::lb:=(Qs ρ [TV.g [.v (.int .i64 x.site),.v (.int .i64 x.use),.v (.int .i64 x.mode),.v (.int .i64 x.prio),.v (.int .i64 x.age)]] lb).trans I;rw[e];exact hc x (Av hx)
  refine tqc ⟨I,I,I,I,hg⟩ (λρ=>hc2 ρ) (hF0:=λf hf=>B3 _ hf) ?_;cases hb:p x
  ·refine Af (z:=(k+1:Nat)) ?_;refine⟨k+1,⟨tqO,λj y hj hy=>?_⟩,tqP,Ac⟩;rcases Bg.1 hj with h|rfl
   ·exact hno j y h hy
   ·rw[hx] at hy;cases hy;exact hb
  ·exact Al [] I2 λ_=>⟨by rw[No hno hx hb];rfl,I⟩
 ·obtain rfl:k=xs.length:=by omega
  exact Al [] I2 λ_=>⟨by rw[Mg λj x hj=>hno j x (Aa.1 hj).1 hj];rfl,I⟩
theorem Ag5 {g:Nat} (hg:Ah tb.fn g=some ()) (p:Wt->Bool) {xs:List Wt} (hlen:xs.length<=1099511627776) (hc:∀x∈xs,Cm prog g (.agg (wtL x).toArray::lb) [] F0 (Bd (.bool (p x)))):
  Cm prog 298 [.slice a xs.length cap,.func (.func g) #[] lb.toArray] [] (slF wtL 5 (.slice a xs.length cap) xs::F0) (Bd (.bool (xs.any p))):=by
 refine tqm [.o (.v (.slice a xs.length cap)),.o (.v (.func (.func g) #[] lb.toArray))] func298 ntmps298 λ_ _=>?_;refine tqc I5 (λ_=>SQ hg p hlen hc) ?_;exact Al [] I2 λ_=>⟨Bx Hq,I⟩
theorem XI (x:Wt) (z:Int) (b:Nat):Cm prog 286 [.agg (wtL x).toArray,.pointer (some ⟨b,0,none⟩)] [] [B9 b [.int .i64 z] 3] (Bd (.bool (x.site == z))):=by
 refine tqm [.g [.v (.int .i64 x.site),.v (.int .i64 x.use),.v (.int .i64 x.mode),.v (.int .i64 x.prio),.v (.int .i64 x.age)],.o (.v (.pointer (some ⟨b,0,none⟩)))] func286 ntmps286 λ_ _=>?_;refine Eu (cs:=[.int .i64 z]) (b:=b) (ct:=3) ?_;exact tqE
def Vj (xs:List Wt) (z:Int):Bool:=decide (0<=Md xs z)&&D5 xs
theorem DC (a:Option Addr) (cap:Nat) (xs:List Wt) (z:Int) (hl:xs.length<=1000000):Cm prog 227 [.slice a xs.length cap,.int .i64 z] [] [slF wtL 5 (.slice a xs.length cap) xs] (Bd (.tuple #[.int .i64 (bif Vj xs z then Md xs z else 0),.bool (Vj xs z)])):=by
 refine tqm [.o (.v (.slice a xs.length cap)),.o (.v (.int .i64 z))] func227 ntmps227 λ_ _=>?_;refine Aj (F0:=[slF wtL 5 (.slice a xs.length cap) xs]) [0] [] I7 (λρ=>(SQ (F0:=[B9 (ρ 0) [.int .i64 z] 3]) (lb:=[.pointer (some ⟨ρ 0,0,none⟩)]) I (λx=>x.site == z) tqO λx _=>XI x z (ρ 0)).facts λA w h f hf=>h f (by simp[Mh] at hf⊢;exact hf.symm)) (hno:=.inr tqH) ?_;rintro e cs F1 _ ⟨rfl,rfl⟩;have hF:Hl (λx:Wt=>x.site == z) xs=Md xs z:=I;rw[hF];unfold Vj;generalize Md xs z=i;refine Ai (λh1=>?_) λh1=>?_
 ·rw[show decide (0<=i)=false by simp;omega];exact tqE
 rw[show decide (0<=i)=true by simp;omega];refine tqc I5 (λ_=>Q0 a cap xs) ?_;cases D5 xs
 ·exact tqE
 ·exact tqE
theorem Ae0 (x:Wt):Cm prog 174 [.agg (wtL x).toArray] [] [] (Bd (.bool (wtB x))):=by
 obtain⟨site,use,mode,prio,age⟩:=x;refine tqm [.g [.v (.int .i64 site),.v (.int .i64 use),.v (.int .i64 mode),.v (.int .i64 prio),.v (.int .i64 age)]] func174 ntmps174 λ_ _=>?_;repeat' (first|refine Ai (λ_=>?_) (λ_=>?_)|refine A7 (λ_=>?_) (λ_=>?_)|(refine Al [] I2 λ_=>⟨Bx ?_,rfl⟩;(rw[Be];simp[wtB,Dt] at* <;>(try dsimp only at*)<;>first|omega|(simp_all;done)|(simp_all;omega)))|(refine Aj [] [] I7 (λ_=>Ux _) ?_;rintro e cs F1 _ ⟨rfl,rfl⟩))
theorem CS (a:Option Addr) (cap:Nat) (xs:List Wt) (z:Int) (hl:xs.length<=1000000):Cm prog 175 [.slice a xs.length cap,.int .i64 z] [] [slF wtL 5 (.slice a xs.length cap) xs] (Bd (.int .i64 (Md xs z))):=by
 refine tqm [.o (.v (.slice a xs.length cap)),.o (.v (.int .i64 z))] func175 ntmps175 λ_ _=>?_;refine Br (γ:=Nat) (λk=>k<=xs.length/\∀(j:Nat) x,j<k->xs[j]? =some x->(x.site == z)=false) (λk=>[(5,.o (.v (.int .i64 k)))]) (λ_=>[]) (λ_=>[]) (λk=>xs.length- k) 0 ⟨Ax _,λj x hj=>by omega⟩ Ac ?_;rintro k ⟨hk,hno⟩;refine Ai (λh1=>?_) λh1=>?_
 ·obtain⟨x,hx⟩:=A9 (xs:=xs) (k:=k);refine Dk (slF wtL 5 (.slice a xs.length cap) xs) (B1 hx) ?_;rintro ⟨b,off,rfl⟩;refine Au Bb ?_;refine Au (Ce (slF wtL 5 (.slice (some ⟨b,off,none⟩) xs.length cap) xs) (Eg hx (j:=0) I)) ?_;refine A7 (λh2=>?_) λh2=>?_
  ·unfold Md;rw[No hno hx h2];exact tqE
  ·refine Af (z:=(k+1:Nat)) ?_;refine⟨k+1,⟨tqO,λj y hj hy=>?_⟩,tqP,Ac⟩;rcases Bg.1 hj with h|rfl
   ·exact hno j y h hy
   ·rw[hx] at hy;cases hy;exact h2
 ·unfold Md;rw[Mg (λj x hj=>hno j x (by have:=(Aa.1 hj).1;omega) hj)];exact tqE
theorem AI (a:Option Addr) (cap:Nat) (xs:List Wt) (hl:xs.length<=1000000):Cm prog 103 [.slice a xs.length cap] [] [slF wtL 5 (.slice a xs.length cap) xs] (Bd (.bool (D5 xs))):=by
 refine tqm [.o (.v (.slice a xs.length cap))] func103 ntmps103 λ_ _=>?_;refine Br (γ:=Nat) (λk=>k<=xs.length/\(xs.take k).all wtB=true/\((xs.take k).map Wt.site).Nodup) (λk=>[(3,.o (.v (.int .i64 k)))]) (λ_=>[]) (λ_=>[]) (λk=>xs.length- k) 0 ⟨Ax _,I,List.nodup_nil⟩ Ac ?_;rintro k ⟨hk,hall,hnd⟩;refine Ai (λh1=>?_) λh1=>?_;rotate_left
 ·obtain rfl:k=xs.length:=by omega
  rw[D3] at hall hnd;have e:decide ((xs.length:Int)<=256)=D5 xs:=by
   by_cases hl2:xs.length<=256
   ·rw[PX hl2 hall hnd];simp;omega
   ·have:D5 xs=false:=by simp[D5];intro h;omega
    rw[this];simp;omega
  rw[<-e];exact tqE
 refine Ai (λh2=>?_) λh2=>?_;rotate_left
 ·have e:decide ((xs.length:Int)<=256)=D5 xs:=by
   have:D5 xs=false:=by simp[D5];intro h;omega
   rw[this];simp;omega
  rw[<-e];exact tqE
 obtain⟨x,hx⟩:=A9 (xs:=xs) (k:=k);refine Dk (slF wtL 5 (.slice a xs.length cap) xs) (B1 hx) ?_;rintro ⟨b,off,rfl⟩;refine Au Bb ?_;refine Au (Cu (vs:=wtL x) (slF wtL 5 (.slice (some ⟨b,off,none⟩) xs.length cap) xs) (Du hx)) ?_;refine tqc I5 (λ_=>Ae0 x) ?_;cases hw:wtB x
 ·rw[DB hx (.inl hw)];exact tqE
 refine Au Bb ?_;refine Au (Ce (slF wtL 5 (.slice (some ⟨b,off,none⟩) xs.length cap) xs) (Eg hx (j:=0) I)) ?_;refine tqc I5 (λ_=>CS (some ⟨b,off,none⟩) cap xs x.site hl) ?_;by_cases hm:x.site∈(xs.take k).map Wt.site
 ·have hno:D5 xs=false:=DB hx (.inr hm);have hne:Md xs x.site≠k:=by
   obtain⟨y,hy,hs⟩:=Cd.1 hm;obtain⟨j,hj⟩:=B6.1 hy;have hjk:j<k:=by have:=(Aa.1 hj).1;rw[Am] at this;omega
   rw[Db hjk] at hj;intro e;unfold Md Hl at e;split at e
   ·rename_i i hi;have h3:=Ii.1 hi;obtain⟨hil,_,h4⟩:=h3;have:j<i:=by omega
    have h5:=h4 j this;rw[(Aa.1 hj).2] at h5;simp[hs] at h5
   ·omega
  generalize Md xs x.site=i at hne;refine A7 (λh3=>?_) λh3=>?_
  ·rw[hno];exact tqE
  ·simp at h3;exact absurd h3 hne
 ·have he:Md xs x.site=k:=by
   refine No (λj y hj hy=>?_) hx tqS;have:y.site≠x.site:=λe=>hm (Cd.2 ⟨y,Av (by rw[Db hj];exact hy),e⟩);simpa using this
  rw[he];refine A7 (λh3=>?_) λh3=>?_
  ·simp at h3
  refine Af (z:=(k+1:Nat)) ?_;refine⟨k+1,⟨tqO,by rw[Vx hx,Ih,hall];simpa using hw,?_⟩,tqP,Ac⟩;rw[Vx hx,D6,Pd];refine⟨hnd,tqS,λy hy z hz=>?_⟩;simp only[Bj,E4,Bc] at hz;subst hz;exact λe=>hm (e ▸ hy)
theorem Aiq (a:Option Addr) (cap:Nat) (xs:List Int) (b:Nat) (hl:xs.length<=1000000):Y2 prog 359 [.pointer (some ⟨b,0,none⟩)] [B9 b [.slice a xs.length cap] 248,slF Bt 1 (.slice a xs.length cap) xs] Bt xs:=by
 refine Xs (tab:=tb) (ok:=R8) [.o (.v (.pointer (some ⟨b,0,none⟩)))] func359 ntmps359 I I (λ_=>I) ?_;intro S;refine Au (Ce (S.inF (B9 b [.slice a xs.length cap] 248)) λA w h=>L9 (o:=0) I _ w h.2) ?_;refine Rj (γ:=Nat) (λk=>k<=xs.length) (λk=>[(7,.o (.v (.int .i64 k)))]) (λ_=>[]) (λk=>[S.jF k,S.inF (slF Bt 1 (.slice a xs.length cap) xs)]) (λk=>xs.length- k) 0 (Ax _) (Ac (hM:=by simp[It.X])) ?_;intro k hk;refine Ai (λh1=>?_) λh1=>?_
 ·obtain⟨x,hx⟩:=A9 (xs:=xs) (k:=k);refine Dk (S.inF (slF Bt 1 (.slice a xs.length cap) xs)) (λA w h=>B1 hx _ w h.2) ?_;rintro ⟨b1,off,rfl⟩;refine Au Bb ?_;refine Au (Ce (S.inF (slF Bt 1 (.slice (some ⟨b1,off,none⟩) xs.length cap) xs)) λA w h=>Eg hx (j:=0) I _ w h.2) ?_;refine Rz k [slF Bt 1 (.slice (some ⟨b1,off,none⟩) xs.length cap) xs] I I I I hx (λ_=>I) tqS tqS ?_ ?_
  ·refine Af (z:=(k+1:Nat)) ?_;exact⟨k+1,tqO,tqP,Ac (hM:=by simp[It.X])⟩
  ·exact Px (k+1) tqS tqO tqO I I
 ·obtain rfl:k=xs.length:=by omega
  exact Og tqS I I
theorem Anh (a:Option Addr) (m cap:Nat):Cm prog 353 [.slice a m cap] [] [] (λe _ F1=>∃b,e=.returned (.func (.func 359) #[] #[.pointer (some ⟨b,0,none⟩)])/\F1=[B9 b [.slice a m cap] 248]):=by
 refine tqm [.o (.v (.slice a m cap))] func353 ntmps353 λ_ _=>?_;exact Lp [0] [] I3 λρ=>⟨ρ 0,I,I⟩
theorem XD (is:Bool) (m x:Int) (b:Nat) (hm:Dt m=true) (hx:Dt x=true):Cm prog 338 [.bool is,.int .i64 x,.pointer (some ⟨b,0,none⟩)] [] [B9 b [.int .i64 m] 65] (Bd (.bool (is&&El m x))):=by
 refine tqm [.o (.v (.bool is)),.o (.v (.int .i64 x)),.o (.v (.pointer (some ⟨b,0,none⟩)))] func338 ntmps338 λ_ _=>?_;refine Eu (cs:=[.int .i64 m]) (b:=b) (ct:=65) ?_;have h:=CI m x;rw[hm,hx] at h;simp only[C8,Tu,Ci] at h;refine tqc I5 (λ_=>h) ?_;cases is
 ·exact tqE
 ·exact tqE
theorem Ajy (is:Bool) (m:Int) (b:Nat) (a:Option Addr) (n cap:Nat) (xs:List Int) (hn:n=xs.length) (hl:xs.length<=1000000) (hm:Dt m=true) (hx:xs.all Dt=true):
  Cm prog 337 [.bool is,.slice a n cap,.func (.func 338) #[] #[.pointer (some ⟨b,0,none⟩)]] [] [B9 b [.int .i64 m] 65,slF Bt 1 (.slice a n cap) xs] (Bd (.bool (is&&xs.all (El m)))):=by
 subst hn;refine tqn [.o (.v (.bool is)),.o (.v (.slice a xs.length cap)),.o (.v (.func (.func 338) #[] #[.pointer (some ⟨b,0,none⟩)]))] func337 ntmps337 I I (λ_ _=>I) λ_ _=>?_;refine Aj [] [] I7 (λ_=>Anh a xs.length cap) ?_;rintro e cs F1 _ ⟨b2,rfl,rfl⟩;refine Rk (γ:=Unit) (λ_ _=>True) (λk _=>([(0,.c [.v (.bool (is&&(xs.take k).all (El m)))] 4),(1,.c [.v (.func (.func 338) #[] #[.pointer (some ⟨b,0,none⟩)])] 420)],[B9 b2 [.slice a xs.length cap] 248,slF Bt 1 (.slice a xs.length cap) xs,B9 b [.int .i64 m] 65])) () (Aiq a cap xs b2 hl) I I I (λ_=>I) I (Ax _) trivial ?_ tqS ?_ ?_
 ·have e:(is&&(xs.take 0).all (El m))=is:=by simp
  simp only[e];exact Ac
 ·rintro k x- hxk- l1 w1 A1 M1 N1 hN1;have hkl:=(Aa.1 hxk).1;intro w2 A2 M2 N2 hN2;refine⟨I,?_⟩;refine tqc I5 (λ_=>XD (is&&(xs.take k).all (El m)) m x b hm (A6.1 hx x (Av hxk))) ?_;refine⟨(),trivial,?_⟩;have e:(is&&(xs.take (k+1)).all (El m))=(is&&(xs.take k).all (El m)&&El m x):=by
   rw[Dl,hxk];simp[Ih,Bool.and_assoc]
  simp only[e];exact Ac (hM:=Fy hN2)
 ·rintro- -;have e:(is&&(xs.take xs.length).all (El m))=(is&&xs.all (El m)):=by rw[D3]
  simp only[e];refine Yb (Oa Qo I ?_);exact Fg (Al [] I2 λ_=>⟨I,I⟩)
def Nv (xs:List Int):Bool:=decide (xs.Pairwise λa b=>El b a=true)
theorem PS {l:List Int} {x:Int}:Nv (l++[x])=(Nv l&&l.all (El x)):=by
 rw[Be];simp[Nv,Hw]
def NT (xs:List Int):Value:=bif xs.all Dt then .tuple #[.bool (Nv xs),.int .i64 0] else .tuple #[.bool false,.int .i64 130]
variable {k:Nat}
theorem Xt {α:Type} {enc:α->List Value} {m n:Nat} {xs:List α} (hn:n<=xs.length) {A:Nat->Prop} {w:World} (h:(slF enc k (.slice a m cap) xs).h A w):(slF enc k (.slice a n cap) (xs.take n)).h A w:=by
 rw[<-Gp n xs] at h;have:=Aic h;rwa[Am,C1 hn] at this
theorem Ab3 (a:Option Addr) (cap:Nat) (xs:List Int) (hl:xs.length<=1000000):Cm prog 323 [.slice a xs.length cap] [] [slF Bt 1 (.slice a xs.length cap) xs] (Bd (NT xs)):=by
 refine tqm [.o (.v (.slice a xs.length cap))] func323 ntmps323 λ_ _=>?_;refine Br (γ:=Nat) (λk=>k<=xs.length/\(xs.take k).all Dt=true) (λk=>[(10,.o (.v (.int .i64 k))),(4,.o (.v (.bool (Nv (xs.take k)))))]) (λ_=>[]) (λ_=>[]) (λk=>xs.length- k) 0 ⟨Ax _,I⟩ ?_ ?_
 ·have e:Nv (xs.take 0)=true:=by simp[Nv]
  simp only[e];exact Ac
 rintro k ⟨hk,hall⟩;refine Ai (λh1=>?_) λh1=>?_;rotate_left
 ·obtain rfl:k=xs.length:=by omega
  rw[D3] at hall;have e:NT xs=.tuple #[.bool (Nv (xs.take xs.length)),.int .i64 0]:=by rw[D3,NT,hall];rfl
  rw[e];exact tqE
 obtain⟨x,hx⟩:=A9 (xs:=xs) (k:=k);refine Dk (p:=k<=cap) (slF Bt 1 (.slice a xs.length cap) xs) (λA w h=>by have:=(YN h).2;omega) λhcap=>?_;refine Dk (slF Bt 1 (.slice a xs.length cap) xs) (B1 hx) ?_;rintro ⟨b,off,rfl⟩;refine Au Bb ?_;refine Au (Ce (slF Bt 1 (.slice (some ⟨b,off,none⟩) xs.length cap) xs) (Eg hx (j:=0) I)) ?_;refine tqc I5 (λ_=>HD x) ?_;unfold QT;cases hm:Dt x
 ·have e:NT xs=.tuple #[.bool false,.int .i64 130]:=by rw[NT,Ms hx hm];rfl
  rw[e];exact tqE
 refine Mi (i:=k) (hi:=hcap) ?_;refine Aj (F0:=[slF Bt 1 (.slice (some ⟨b,off,none⟩) xs.length cap) xs]) [0] [] I7 (λρ=>(Ajy (Nv (xs.take k)) x (ρ 0) (some ⟨b,off,none⟩) k cap (xs.take k) (by rw[Am];omega) (by rw[Am];omega) hm hall).facts (λA w h f hf=>by
  simp only[Ap,Bw,Ed] at hf;rcases hf with rfl|rfl
  ·exact h _ (by simp[Mh];exact .inl I)
  ·exact Xt hk (h (slF Bt 1 (.slice (some ⟨b,off,none⟩) xs.length cap) xs) (by simp[Mh])))) (hno:=.inr tqH) ?_
 rintro e cs F1 _ ⟨rfl,rfl⟩;refine Af (z:=(k+1:Nat)) ?_;refine⟨k+1,⟨tqO,by rw[Dl,hx];simp[Ih,hall];simpa using hm⟩,tqP,?_⟩;have e:Nv (xs.take (k+1))=(Nv (xs.take k)&&(xs.take k).all (El x)):=by rw[Dl,hx];exact PS
 simp only[e];exact Ac
theorem Xo (a b:Int):Cm prog 262 [.int .i64 a,.int .i64 b] [] [] (Bd (.bool (El a b))):=by
 refine tqm [.o (.v (.int .i64 a)),.o (.v (.int .i64 b))] func262 ntmps262 λ_ _=>?_;repeat' (first|refine Ai (λ_=>?_) (λ_=>?_)|refine A7 (λ_=>?_) (λ_=>?_)|(refine Al [] I2 λ_=>⟨Bx ?_,rfl⟩;(rw[Be];simp[El] at* <;>(try dsimp only at*)<;>first|omega|(simp_all;done)|(simp_all;omega)))|fail)
structure Hd where
 site:Int
 use:Int
 mode:Int
def hdL (x:Hd):List Value:=[.int .i64 x.site,.int .i64 x.use,.int .i64 x.mode]
theorem Dd:∀x,(hdL x).length=3:=λ_=>I
def hdB (x:Hd):Bool:=(decide (0<=x.site)&&decide (x.site<=255))&&(decide (1<=x.use)&&decide (x.use<=1099511627776))&&(decide (1<=x.mode)&&decide (x.mode<=5))
theorem OL (x:Hd):Cm prog 249 [.agg (hdL x).toArray] [] [] (Bd (.bool (hdB x))):=by
 obtain⟨site,use,mode⟩:=x;refine tqm [.g [.v (.int .i64 site),.v (.int .i64 use),.v (.int .i64 mode)]] func249 ntmps249 λ_ _=>?_;refine B8 (u:=.g [.v (.int .i64 site),.v (.int .i64 0),.v (.int .i64 255),.v (.int .i64 use),.v (.int .i64 1),.v (.int .i64 1099511627776),.v (.int .i64 mode),.v (.int .i64 1),.v (.int .i64 5)]) Ha ?_;refine Hj 4 ?_;refine B8 (Io (i:=0) (m:=3)) ?_;refine Ai (λ_=>?_) λ_=>?_
 ·exact Al [] I2 λ_=>⟨Bx (by cases hcb:hdB _<;>first|rfl|(exfalso;simp[hdB] at hcb;(try dsimp only at*);omega)),I⟩
 refine Ai (λ_=>?_) λ_=>?_
 ·exact Al [] I2 λ_=>⟨Bx (by cases hcb:hdB _<;>first|rfl|(exfalso;simp[hdB] at hcb;(try dsimp only at*);omega)),I⟩
 refine Af (z:=1) ?_;refine B8 (Io (i:=1) (m:=3)) ?_;refine Ai (λ_=>?_) λ_=>?_
 ·exact Al [] I2 λ_=>⟨Bx (by cases hcb:hdB _<;>first|rfl|(exfalso;simp[hdB] at hcb;(try dsimp only at*);omega)),I⟩
 refine Ai (λ_=>?_) λ_=>?_
 ·exact Al [] I2 λ_=>⟨Bx (by cases hcb:hdB _<;>first|rfl|(exfalso;simp[hdB] at hcb;(try dsimp only at*);omega)),I⟩
 refine Af (z:=2) ?_;refine B8 (Io (i:=2) (m:=3)) ?_;refine Ai (λ_=>?_) λ_=>?_
 ·exact Al [] I2 λ_=>⟨Bx (by cases hcb:hdB _<;>first|rfl|(exfalso;simp[hdB] at hcb;(try dsimp only at*);omega)),I⟩
 refine Ai (λ_=>?_) λ_=>?_
 ·exact Al [] I2 λ_=>⟨Bx (by cases hcb:hdB _<;>first|rfl|(exfalso;simp[hdB] at hcb;(try dsimp only at*);omega)),I⟩
 refine Af (z:=3) ?_;exact Al [] I2 λ_=>⟨Bx (by cases hcb:hdB _<;>first|rfl|(exfalso;simp[hdB] at hcb;(try dsimp only at*);omega)),I⟩
def Kv (a b:Int):Int:=if a<b then-1 else if b<a then 1 else 0
theorem XY (a:Int):Cm prog 330 [.int .i64 a] [] [] (Bd (.bool false)):=by
 refine tqm [.o (.v (.int .i64 a))] func330 ntmps330 λ_ _=>?_;exact Al [] I2 λ_=>⟨Bx (by(simp)),I⟩
theorem Mc (a b:Int):Cm prog 302 [.int .i64 a,.int .i64 b] [] [] (Bd (.int .i64 (Kv a b))):=by
 refine tqm [.o (.v (.int .i64 a)),.o (.v (.int .i64 b))] func302 ntmps302 λ_ _=>?_;refine tqc I5 (λ_=>XY a) ?_;refine tqc I5 (λ_=>XY b) ?_;unfold Kv;refine Ai (λh1=>?_) λh1=>?_
 ·rw[Bi h1];exact tqE
 rw[Ar h1];refine Ai (λh2=>?_) λh2=>?_
 ·rw[Bi h2];exact tqE
 rw[Ar h2];exact tqE
theorem GX (x y:Hd):Cm prog 253 [.agg (hdL x).toArray,.agg (hdL y).toArray] [] [] (Bd (.int .i64 (Kv x.site y.site))):=by
 refine tqm [.g [.v (.int .i64 x.site),.v (.int .i64 x.use),.v (.int .i64 x.mode)],.g [.v (.int .i64 y.site),.v (.int .i64 y.use),.v (.int .i64 y.mode)]] func253 ntmps253 λ_ _=>?_;refine tqc I5 (λ_=>Mc x.site y.site) ?_;exact tqE
def Et (xs:List Hd):List Int:=xs.map Hd.mode
variable {xs:List Hd}
theorem HE {x:Hd} (hx:xs[k]? =some x):(Et (xs.take (k+1))).flatMap Bt=(Et (xs.take k)).flatMap Bt++[.int .i64 x.mode]:=by
 rw[Dl,hx];simp[Et,Bt]
def SY (xs:List Hd):Gx:=λe _ F1=>∃a c,e=.returned (.slice a xs.length c)/\F1=[slF Bt 1 (.slice a xs.length c) (Et xs)]
theorem AV (a:Option Addr) (cap:Nat) (xs:List Hd) (hl:xs.length<=1000000):Cm prog 246 [.agg #[.slice a xs.length cap]] [] [slF hdL 3 (.slice a xs.length cap) xs] (SY xs):=by
 refine tqm [.g [.v (.slice a xs.length cap)]] func246 ntmps246 λ_ _=>?_;refine Rl (MM 65 1) ?_;refine Br (γ:=Nat×Option Addr×Nat) (λg=>g.1<=xs.length) (λg=>[(8,.o (.v (.int .i64 g.1))),(2,.o (.v (.slice g.2.1 g.1 g.2.2)))]) (λg=>[(1,.own (.slice g.2.1 g.1 g.2.2) 65 1 g.1 ((Et (xs.take g.1)).flatMap Bt))]) (λ_=>[]) (λg=>xs.length- g.1) (0,none,0) (Ax _) Ac ?_;rintro ⟨k,a1,c1⟩ hk;simp only at hk;refine Ai (λh1=>?_) λh1=>?_;rotate_left
 ·obtain rfl:k=xs.length:=by dsimp only at h1;omega
  refine Dj (D8 (j:=1) (v:=.slice a1 xs.length c1) (m:=xs.length) (enc:=Bt) (xs:=Et xs) (.inl I) (λ_=>I) (by simp[Et]) (by rw[<-D3 (l:=xs)];simp only[D3];rfl)) ?_;exact Al [slF Bt 1 (.slice a1 xs.length c1) (Et xs)] I2 λ_=>⟨a1,c1,I,I⟩
 obtain⟨x,hx⟩:=A9 (xs:=xs) (k:=k) (h:=by dsimp only at h1;omega);refine Dk (slF hdL 3 (.slice a xs.length cap) xs) (B1 hx) ?_;rintro ⟨b,off,rfl⟩;refine Au (Bb (i:=k) (hz:=I) (ho:=I) (he:=I) (hx:=I) (hix:=I) (hi:=by dsimp only at h1;omega)) ?_;refine Au (Cu (vs:=hdL x) (slF hdL 3 (.slice (some ⟨b,off,none⟩) xs.length cap) xs) (Du hx)) ?_;refine Dq 1 (m':=1) (news:=[.int .i64 x.mode]) I I I I I I I I I tqD I I I (Uq (news:=[.int .i64 x.mode]) I I) I (by simp[Value.oneCell']) tqO tqM ?_;intro a2 c2;refine Af (z:=(k+1:Nat)) ?_;refine⟨(k+1,a2,c2),by dsimp only at h1;dsimp only;omega,by dsimp only at h1;dsimp only;omega,?_⟩;simp only[HE hx];exact Ac
structure Wu where
 w:Wt
 pos:Int
instance:Inhabited Wu:=⟨⟨⟨0,0,0,0,0⟩,0⟩⟩
def wuL (x:Wu):List Value:=[.int .i64 x.w.site,.int .i64 x.w.use,.int .i64 x.w.mode,.int .i64 x.w.prio,.int .i64 x.w.age,.int .i64 x.pos]
theorem GJ:∀x,(wuL x).length=6:=λ_=>I
def Jo (c:Int) (x:Wu):Bool:=decide (c<=x.w.age)
def RM (c:Int) (x y:Wu):Int:=bif Jo c x then(bif Jo c y then Kv x.pos y.pos else-1) else bif Jo c y then 1 else bif Kv y.w.prio x.w.prio == 0 then Kv x.pos y.pos else Kv y.w.prio x.w.prio
theorem DA (x:Wu) (c:Int):Cm prog 244 [.agg (wuL x).toArray,.int .i64 c] [] [] (Bd (.bool (Jo c x))):=by
 refine tqm [.g [.v (.int .i64 x.w.site),.v (.int .i64 x.w.use),.v (.int .i64 x.w.mode),.v (.int .i64 x.w.prio),.v (.int .i64 x.w.age),.v (.int .i64 x.pos)],.o (.v (.int .i64 c))] func244 ntmps244 λ_ _=>?_;exact tqE
theorem Aa5 (a b:Int) (k:Nat):Cm prog 328 [.slice (some ⟨k,0,none⟩) 2 2] [] [B9 k [.int .i64 a,.int .i64 b] 3] (Bd (.int .i64 (bif a == 0 then b else a))):=by
 refine tqm [.o (.v (.slice (some ⟨k,0,none⟩) 2 2))] func328 ntmps328 λ_ _=>?_;refine Hj 3 ?_;refine Au (Bb (i:=0) (hz:=I) (ho:=I) (he:=I) (hx:=I) (hix:=I) (hi:=tqD)) ?_;refine Eu (cs:=[.int .i64 a,.int .i64 b]) (b:=k) (ct:=3) ?_;refine A7 (λh=>?_) λh=>?_
 ·rw[show (a == 0)=false by simpa using h];exact tqE
 have ha:a=0:=by simpa using h
 subst ha;refine Af (z:=1) ?_;refine Au (Bb (i:=1) (hz:=I) (ho:=I) (he:=I) (hx:=I) (hix:=I) (hi:=tqD)) ?_;refine Eu (cs:=[.int .i64 0,.int .i64 b]) (b:=k) (ct:=3) ?_;refine A7 (λh=>?_) λh=>?_
 ·exact tqE
 have hb:b=0:=by simpa using h
 subst hb;refine Af (z:=2) ?_;exact tqE
theorem Hx (c:Int) (x y:Wu):Cm prog 295 [.int .i64 c,.agg (wuL x).toArray,.agg (wuL y).toArray] [] [] (Bd (.int .i64 (RM c x y))):=by
 refine tqm [.o (.v (.int .i64 c)),.g [.v (.int .i64 x.w.site),.v (.int .i64 x.w.use),.v (.int .i64 x.w.mode),.v (.int .i64 x.w.prio),.v (.int .i64 x.w.age),.v (.int .i64 x.pos)],.g [.v (.int .i64 y.w.site),.v (.int .i64 y.w.use),.v (.int .i64 y.w.mode),.v (.int .i64 y.w.prio),.v (.int .i64 y.w.age),.v (.int .i64 y.pos)]] func295 ntmps295 λ_ _=>?_;have hA:=DA x c;have hB:=DA y c;unfold RM;generalize Jo c x=ax at hA⊢;generalize Jo c y=ay at hB⊢;cases ax<;>cases ay
 ·refine Ao [2,5,7,8] (.op 0<|.op 1<| .op 3<|.op 4<| .alt (.op 2<|.alt (.op 5<|.op 6<|.op 7<|.op 8 .z) (.op 7<|.op 5<|.op 6<|.op 8 .z)) (.op 7<| .op 2<| .op 5<|.op 6<| .op 8 .z)) [0,1] [] [] [] λ_=>?_;refine⟨?_,?_⟩
  ·refine tqc I5 (λ_=>hA) ?_;refine tqQ ?_;refine⟨?_,?_⟩
   ·refine tqc I5 (λ_=>hB) ?_;refine tqQ<|⟨_,Ha,?_⟩;refine tqQ<|tqQ<|(show OJs _ _ _ _ _ _ _ _ _ from ?_);refine Au (Ek (i:=0)) ?_;refine(show OJs _ _ _ _ _ _ _ _ _ from ?_);refine Au (Ek (i:=0)) ?_;refine(show OJs _ _ _ _ _ _ _ _ _ from ?_);refine Au (Ek (i:=1)) ?_;refine Ao [6,11,12,13] (tqs 0 6<| tqs 7 4<| .op 6<| .op 11<|.op 12<|.op 13<| .op 14 .z) [0,1] [] [] [] λ_=>?_;refine tqc I5 (λ_=>Mc y.w.prio x.w.prio) ?_;refine tqQ<|tqc I5 (λ_=>Mc x.pos y.pos) ?_;refine tqQ<|tqQ<|Aj [3] [] I7 (λρ=>Aa5 (Kv y.w.prio x.w.prio) (Kv x.pos y.pos) (ρ 3)) (hno:=.inr tqH) ?_;rintro e cs F1 _ ⟨rfl,rfl⟩;exact tqQ<|tqE
   ·refine tqQ<|tqc I5 (λ_=>hB) ?_;refine tqQ<|⟨_,Ha,?_⟩;refine tqQ<|(show OJs _ _ _ _ _ _ _ _ _ from ?_);refine Au (Ek (i:=0)) ?_;refine(show OJs _ _ _ _ _ _ _ _ _ from ?_);refine Au (Ek (i:=0)) ?_;refine(show OJs _ _ _ _ _ _ _ _ _ from ?_);refine Au (Ek (i:=1)) ?_;refine Ao [6,11,12,13] (tqs 0 6<| tqs 7 4<| .op 6<| .op 11<|.op 12<|.op 13<| .op 14 .z) [0,1] [] [] [] λ_=>?_;refine tqc I5 (λ_=>Mc y.w.prio x.w.prio) ?_;refine tqQ<|tqc I5 (λ_=>Mc x.pos y.pos) ?_;refine tqQ<|tqQ<|Aj [3] [] I7 (λρ=>Aa5 (Kv y.w.prio x.w.prio) (Kv x.pos y.pos) (ρ 3)) (hno:=.inr tqH) ?_;rintro e cs F1 _ ⟨rfl,rfl⟩;exact tqQ<|tqE
  ·refine tqQ<|tqc I5 (λ_=>hA) ?_;refine tqQ<|tqc I5 (λ_=>hB) ?_;refine tqQ<|⟨_,Ha,?_⟩;refine tqQ<|(show OJs _ _ _ _ _ _ _ _ _ from ?_);refine Au (Ek (i:=0)) ?_;refine(show OJs _ _ _ _ _ _ _ _ _ from ?_);refine Au (Ek (i:=0)) ?_;refine(show OJs _ _ _ _ _ _ _ _ _ from ?_);refine Au (Ek (i:=1)) ?_;refine Ao [6,11,12,13] (tqs 0 6<| tqs 7 4<| .op 6<| .op 11<|.op 12<|.op 13<| .op 14 .z) [0,1] [] [] [] λ_=>?_;refine tqc I5 (λ_=>Mc y.w.prio x.w.prio) ?_;refine tqQ<|tqc I5 (λ_=>Mc x.pos y.pos) ?_;refine tqQ<|tqQ<|Aj [3] [] I7 (λρ=>Aa5 (Kv y.w.prio x.w.prio) (Kv x.pos y.pos) (ρ 3)) (hno:=.inr tqH) ?_;rintro e cs F1 _ ⟨rfl,rfl⟩;exact tqQ<|tqE
 ·refine Ao [2,5,7,8] (.op 0<|.op 1<| .op 3<|.op 4<| .alt (.op 2<|.alt (.op 5<|.op 6<|.op 7<|.op 8 .z) (.op 7<|.op 5<|.op 6<|.op 8 .z)) (.op 7<| .op 2<| .op 5<|.op 6<| .op 8 .z)) [0,1] [] [] [] λ_=>?_;refine⟨?_,?_⟩
  ·refine tqc I5 (λ_=>hA) ?_;refine tqQ ?_;refine⟨?_,?_⟩
   ·refine tqc I5 (λ_=>hB) ?_;refine tqQ<|⟨_,Ha,?_⟩;refine tqQ<|tqQ<|(show OJs _ _ _ _ _ _ _ _ _ from ?_);refine Au (Ek (i:=0)) ?_;refine(show OJs _ _ _ _ _ _ _ _ _ from ?_);refine Au (Ek (i:=0)) ?_;refine(show OJs _ _ _ _ _ _ _ _ _ from ?_);refine Au (Ek (i:=1)) ?_;exact tqE
   ·refine tqQ<|tqc I5 (λ_=>hB) ?_;refine tqQ<|⟨_,Ha,?_⟩;refine tqQ<|(show OJs _ _ _ _ _ _ _ _ _ from ?_);refine Au (Ek (i:=0)) ?_;refine(show OJs _ _ _ _ _ _ _ _ _ from ?_);refine Au (Ek (i:=0)) ?_;refine(show OJs _ _ _ _ _ _ _ _ _ from ?_);refine Au (Ek (i:=1)) ?_;exact tqE
  ·refine tqQ<|tqc I5 (λ_=>hA) ?_;refine tqQ<|tqc I5 (λ_=>hB) ?_;refine tqQ<|⟨_,Ha,?_⟩;refine tqQ<|(show OJs _ _ _ _ _ _ _ _ _ from ?_);refine Au (Ek (i:=0)) ?_;refine(show OJs _ _ _ _ _ _ _ _ _ from ?_);refine Au (Ek (i:=0)) ?_;refine(show OJs _ _ _ _ _ _ _ _ _ from ?_);refine Au (Ek (i:=1)) ?_;exact tqE
 ·refine Ao [2,5,7,8] (.op 0<|.op 1<| .op 3<|.op 4<| .alt (.op 2<|.alt (.op 5<|.op 6<|.op 7<|.op 8 .z) (.op 7<|.op 5<|.op 6<|.op 8 .z)) (.op 7<| .op 2<| .op 5<|.op 6<| .op 8 .z)) [0,1] [] [] [] λ_=>?_;refine⟨?_,?_⟩
  ·refine tqc I5 (λ_=>hA) ?_;refine tqQ ?_;refine⟨?_,?_⟩
   ·refine tqc I5 (λ_=>hB) ?_;refine tqQ<|⟨_,Ha,?_⟩;refine tqQ<|tqQ<|(show OJs _ _ _ _ _ _ _ _ _ from ?_);refine Au (Ek (i:=0)) ?_;refine(show OJs _ _ _ _ _ _ _ _ _ from ?_);refine Au (Ek (i:=1)) ?_;refine(show OJs _ _ _ _ _ _ _ _ _ from ?_);refine Au (Ek (i:=0)) ?_;exact tqE
   ·refine tqQ<|tqc I5 (λ_=>hB) ?_;refine tqQ<|⟨_,Ha,?_⟩;refine tqQ<|(show OJs _ _ _ _ _ _ _ _ _ from ?_);refine Au (Ek (i:=0)) ?_;refine(show OJs _ _ _ _ _ _ _ _ _ from ?_);refine Au (Ek (i:=1)) ?_;refine(show OJs _ _ _ _ _ _ _ _ _ from ?_);refine Au (Ek (i:=0)) ?_;exact tqE
  ·refine tqQ<|tqc I5 (λ_=>hA) ?_;refine tqQ<|tqc I5 (λ_=>hB) ?_;refine tqQ<|⟨_,Ha,?_⟩;refine tqQ<|(show OJs _ _ _ _ _ _ _ _ _ from ?_);refine Au (Ek (i:=0)) ?_;refine(show OJs _ _ _ _ _ _ _ _ _ from ?_);refine Au (Ek (i:=1)) ?_;refine(show OJs _ _ _ _ _ _ _ _ _ from ?_);refine Au (Ek (i:=0)) ?_;exact tqE
 ·refine Ao [2,5,7,8] (.op 0<|.op 1<| .op 3<|.op 4<| .alt (.op 2<|.alt (.op 5<|.op 6<|.op 7<|.op 8 .z) (.op 7<|.op 5<|.op 6<|.op 8 .z)) (.op 7<| .op 2<| .op 5<|.op 6<| .op 8 .z)) [0,1] [] [] [] λ_=>?_;refine⟨?_,?_⟩
  ·refine tqc I5 (λ_=>hA) ?_;refine tqQ ?_;refine⟨?_,?_⟩
   ·refine tqc I5 (λ_=>hB) ?_;refine tqQ<|⟨_,Ha,?_⟩;refine tqQ<|tqQ<|(show OJs _ _ _ _ _ _ _ _ _ from ?_);refine Au (Ek (i:=0)) ?_;refine(show OJs _ _ _ _ _ _ _ _ _ from ?_);refine Au (Ek (i:=1)) ?_;refine tqc I5 (λ_=>Mc x.pos y.pos) ?_;exact tqE
   ·refine tqQ<|tqc I5 (λ_=>hB) ?_;refine tqQ<|⟨_,Ha,?_⟩;refine tqQ<|(show OJs _ _ _ _ _ _ _ _ _ from ?_);refine Au (Ek (i:=0)) ?_;refine(show OJs _ _ _ _ _ _ _ _ _ from ?_);refine Au (Ek (i:=1)) ?_;refine tqc I5 (λ_=>Mc x.pos y.pos) ?_;exact tqE
  ·refine tqQ<|tqc I5 (λ_=>hA) ?_;refine tqQ<|tqc I5 (λ_=>hB) ?_;refine tqQ<|⟨_,Ha,?_⟩;refine tqQ<|(show OJs _ _ _ _ _ _ _ _ _ from ?_);refine Au (Ek (i:=0)) ?_;refine(show OJs _ _ _ _ _ _ _ _ _ from ?_);refine Au (Ek (i:=1)) ?_;refine tqc I5 (λ_=>Mc x.pos y.pos) ?_;exact tqE
section
variable {α:Type} [Inhabited α]
def swp (l:List α) (i j:Nat):List α:=(l.set i (l.getD j default)).set j (l.getD i default)
theorem BT (l:List α) (i j:Nat):(swp l i j).length=l.length:=by simp[swp]
variable {l:List α}
theorem Li {i j k:Nat} (hi:i<l.length) (hj:j<l.length):(swp l i j)[k]? =if k=j then l[i]? else if k=i then l[j]? else l[k]?:=by
 unfold swp;rw[Kb,Mr];by_cases h:j=k
 ·subst h;rw[Bi I,Bi hj,Bi I,D1,A8 hi];rfl
 ·rw[Ar h,Ar λe=>h e.symm,Kb];by_cases h2:i=k
  ·subst h2;rw[Bi I,Bi hi,Bi I,D1,A8 hj];rfl
  ·rw[Ar h2,Ar λe=>h2 e.symm]
inductive Sw (a b:Nat):List α->List α->Prop
 |refl (l:List α):Sw a b l l
 |step {l m:List α} {i j:Nat}:Sw a b l m->a<=i->i<b->a<=j->j<b->b<=m.length->Sw a b l (swp m i j)
variable {a b:Nat} {m:List α}
theorem Sw.len (h:Sw a b l m):m.length=l.length:=by
 induction h with
 |refl=>rfl
 |step _ _ _ _ _ _ ih=>rw[BT,ih]
theorem Sw.trans {n:List α} (h:Sw a b l m) (k:Sw a b m n):Sw a b l n:=by
 induction k with
 |refl=>exact h
 |step _ h1 h2 h3 h4 h5 ih=>exact .step ih h1 h2 h3 h4 h5
theorem Sw.wide {a' b':Nat} (h:Sw a b l m) (ha:a'<=a) (hb:b<=b') (hl:b'<=l.length):Sw a' b' l m:=by
 induction h with
 |refl=>exact .refl _
 |step h0 h1 h2 h3 h4 h5 ih=>exact .step ih tqO tqO tqO tqO (by rw[h0.len];exact hl)
theorem Sw.one {i j:Nat} (h1:a<=i) (h2:i<b) (h3:a<=j) (h4:j<b) (h5:b<=l.length):Sw a b l (swp l i j):=.step (.refl l) h1 h2 h3 h4 h5
theorem Sw.out (h:Sw a b l m) {k:Nat} (hk:k<a\/b<=k):m[k]? =l[k]?:=by
 induction h with
 |refl=>rfl
 |step h0 h1 h2 h3 h4 h5 ih=>
  rw[Li tqO tqO,Ar tqO,Ar tqO,ih]
theorem Sw.all (h:Sw a b l m) {p:α->Prop} (hp:∀k x,a<=k->k<b->l[k]? =some x->p x):∀k x,a<=k->k<b->m[k]? =some x->p x:=by
 induction h with
 |refl=>exact hp
 |step h0 h1 h2 h3 h4 h5 ih=>
  intro k x hk1 hk2 hx;rw[Li tqO tqO] at hx;split at hx
  ·exact ih _ _ h1 h2 hx
  ·split at hx
   ·exact ih _ _ h3 h4 hx
   ·exact ih _ _ hk1 hk2 hx
end
section
variable {α:Type}
def Ju (lt:α->α->Bool) (a b:Nat) (l:List α):Prop:=∀p q x y,a<=p->p<q->q<b->l[p]? =some x->l[q]? =some y->lt y x=false
structure Ord (lt:α->α->Bool):Prop where
 asym:∀x y,lt x y=true->lt y x=false
 tran:∀x y z,lt y x=false->lt z y=false->lt z x=false
variable {a:Nat} {l:List α} {lt:α->α->Bool}
theorem Ju.none {b:Nat} (h:b<=a+1):Ju lt a b l:=λp q x y h1 h2 h3=>by omega
theorem Ju.sub {b a' b':Nat} (h:Ju lt a b l) (ha:a<=a') (hb:b'<=b):Ju lt a' b' l:=λp q x y h1 h2 h3=>h p q x y tqO h2 tqO
def T7 (lt:α->α->Bool) (a i j:Nat) (l:List α):Prop:=∀p q x y,a<=p->p<q->q<=i->q≠j->l[p]? =some x->l[q]? =some y->lt y x=false
theorem T7.of {i:Nat} (h:Ju lt a i l):T7 lt a i i l:=λp q x y h1 h2 h3 h4 h5 h6=>h p q x y h1 h2 tqO h5 h6
theorem T7.low {i:Nat} (h:T7 lt a i a l):Ju lt a (i+1) l:=λp q x y h1 h2 h3 h5 h6=>h p q x y h1 h2 tqO tqO h5 h6
theorem T7.stop (ho:Ord lt) {i j:Nat} {x y:α} (h:T7 lt a i j l) (haj:a<j) (hji:j<=i) (hx:l[j]? =some x) (hy:l[j- 1]? =some y) (hn:lt x y=false):Ju lt a (i+1) l:=by
 intro p q u v h1 h2 h3 h5 h6;by_cases hq:q=j
 ·subst hq;rw[hx] at h6;cases h6;by_cases hp:p=q- 1
  ·subst hp;rw[hy] at h5;cases h5;exact hn
  ·exact ho.tran u y x (h p (q- 1) u y h1 tqO tqO tqO h5 hy) hn
 ·exact h p q u v h1 h2 tqO hq h5 h6
theorem T7.step [Inhabited α] (ho:Ord lt) {i j:Nat} {x y:α} (h:T7 lt a i j l) (haj:a<j) (hji:j<=i) (hil:i<l.length) (hx:l[j]? =some x) (hy:l[j- 1]? =some y) (hn:lt x y=true):T7 lt a i (j- 1) (swp l j (j- 1)):=by
 intro p q u v h1 h2 h3 h4 h5 h6;rw[Li tqO tqO] at h5 h6;have at1:∀k,k≠j- 1->k≠j->(if k=j- 1 then l[j]? else if k=j then l[j- 1]? else l[k]?)=l[k]?:=λk h1 h2=>by rw[Ar h1,Ar h2]
 rw[Ar h4] at h6;by_cases hq:q=j
 ·subst hq;rw[Bi I,hy] at h6;cases h6;by_cases hp:p=q- 1
  ·rw[Bi hp,hx] at h5;cases h5;exact ho.asym _ _ hn
  ·rw[Ar hp,Ar tqO] at h5;exact h p (q- 1) u y h1 tqO tqO tqO h5 hy
 ·rw[Ar hq] at h6;by_cases hp:p=j- 1
  ·rw[Bi hp] at h5;exact h j q u v tqO tqO h3 hq h5 h6
  ·rw[Ar hp] at h5;by_cases hp2:p=j
   ·rw[Bi hp2] at h5;exact h (j- 1) q u v tqO tqO h3 hq h5 h6
   ·rw[Ar hp2] at h5;exact h p q u v h1 h2 h3 hq h5 h6
end
def ltW (c:Int) (x y:Wu):Bool:=decide (RM c x y<0)
def He (c:Int):Value:=.func (.func 295) #[.int .i64 c] #[]
def wuR (l:List Wu) (junk:List Value):List Value:=l.flatMap wuL++junk
section
variable {X:Fx} {T:TE} {L:LE} {n:Nat} {F:List Fact} {D:DF} {K:KK} {k:KS} {o:Oper}
theorem Do {t ct:TypeId} {x:Operand} {j off i:Nat} {l:List Wu} {y:Wu} {junk:List Value} (hy:l[i]? =some y) (ho:o.op=.load t x:=by exact I) (hk:Ah X.tab.kd t=some (some 6):=by exact I) (hx:evS T x=some (.o (.p j off)):=by exact I) (hL:Ah L j=some (D9 (wuR l junk) ct):=by exact I) (hoff:off=i*6:=by exact tqZ):Yd X o T L F (.g ((wuL y).map SV.v)):=by
 subst hoff;obtain⟨h1,h2⟩:=FZ GJ hy junk;exact VU (v:=.agg (wuL y).toArray) ho hk hx hL (by unfold wuR;simp only[Jq,Bi h2,h1]) λρ=>by simp only[TV.den,Ji]
theorem YU (y:Wu):∀v∈wuL y,v.oneCell'=true:=by
 intro v hv;simp only[wuL,Ap,Bw,Ed] at hv;rcases hv with rfl|rfl|rfl|rfl|rfl|rfl<;>rfl
theorem E8 {t ct:TypeId} {x y:Operand} {j off i:Nat} {l:List Wu} {z z':Wu} {junk:List Value} {u:TV} (hz:l[i]? =some z) (h:k T ((j,D9 (wuR (l.set i z') junk) ct)::L) n F D) (ho:o.op=.store t x y:=by exact I) (hd:o.dst=none:=by exact I) (hk:Ah X.tab.kd t=some (some 6):=by exact I) (hx:evS T x=some (.o (.p j off)):=by exact I) (hy:evS T y=some u:=by exact I) (hu:u.cells=some ((wuL z').map SV.v):=by exact I) (hL:Ah L j=some (D9 (wuR l junk) ct):=by exact I) (hoff:off=i*6:=by exact tqZ):OJs X o T L n F D k K:=
 Zm (q:=0) z' hz GJ ho hd hk hx (by rw[hoff,Eb]) hy hu (YU z') hL I (by rw[GJ];exact Ak _) (by simp[wuL]) h
end
variable {l:List Wu}
theorem J8 {i j:Nat} {x y:Wu} (hi:l[i]? =some x) (hj:l[j]? =some y):(l.set i y).set j x=swp l i j:=by
 unfold swp;rw[D1,D1,hi,hj];rfl
theorem Lh {i j:Nat} {x y:Wu} (hi:l[i]? =some x) (hj:l[j]? =some y):(l.set i y)[j]? =some y:=by
 rw[Kb];split
 ·rename_i e;subst e;rw[Bi (Aa.1 hi).1]
 ·exact hj
def BS (lt:Wu->Wu->Bool) (a b:Nat) (l:List Wu) (junk:List Value):Ku:=λr Ls F1=>∃m,Sw a b l m/\Ju lt a b m/\r=.inl (.t [])/\Ls=[.r (wuR m junk) 335]/\F1=[]
theorem Adl (c:Int) (ho:Ord (ltW c)) (l:List Wu) (junk:List Value) (cap a b:Nat) (hl:l.length<=1000000) (hab:a<=b) (hbl:b<=l.length):Cx prog 339 [.o (.s 0 0 l.length cap),.o (.v (.int .i64 a)),.o (.v (.int .i64 b)),.o (.v (He c))] [.r (wuR l junk) 335] [] (BS (ltW c) a b l junk):=by
 unfold He;refine tqx func339 ntmps339 ?_;intro ρ w0 A0;refine Af (z:=((a+1:Nat):Int)) ?_;refine Br (γ:=Nat×List Wu) (λg=>a+1<=g.1/\Sw a b l g.2/\Ju (ltW c) a g.1 g.2) (λg=>[(8,.o (.v (.int .i64 g.1)))]) (λg=>[(0,D9 (wuR g.2 junk) 335)]) (λ_=>[]) (λg=>b- g.1) (a+1,l) ⟨Ak _,.refl _,.none (Ak _)⟩ Ac ?_;rintro ⟨i,m⟩ ⟨hi,hsw,hsr⟩;dsimp only at hi hsw hsr⊢;have hml:=hsw.len;refine Ai (λh1=>?_) λh1=>?_;rotate_left
 ·exact Dg [0] (.t []) [.r (wuR m junk) 335] [] ⟨I,trivial⟩ ⟨m,hsw,hsr.sub (Ak _) tqO,I,I,I⟩
 refine Br (γ:=Nat×List Wu) (λg=>a<=g.1/\g.1<=i/\Sw a b l g.2/\T7 (ltW c) a i g.1 g.2) (λg=>[(9,.o (.v (.int .i64 g.1)))]) (λg=>[(0,D9 (wuR g.2 junk) 335)]) (λ_=>[]) (λg=>g.1) (i,m) ⟨tqO,Ak _,hsw,.of hsr⟩ Ac ?_;rintro ⟨j,q⟩ ⟨hja,hji,hsw,hin⟩;dsimp only at hja hji hsw hin⊢;have hql:=hsw.len;refine Ao [14] (tqs 0 16<| .op 16 .z) [0] [] [] [] λ_=>?_;refine Ai (λh2=>?_) λh2=>?_;rotate_left
 ·obtain rfl:j=a:=by omega
  refine Af (z:=((i+1:Nat):Int)) ?_;exact⟨(i+1,q),⟨tqO,hsw,hin.low⟩,tqP,Ac⟩
 obtain⟨x,hx⟩:=A9 (xs:=q) (k:=j);obtain⟨y,hy⟩:=A9 (xs:=q) (k:=j- 1);refine⟨_,Ay (i:=j),?_⟩;refine⟨_,Do hx,?_⟩;refine⟨_,Cb (z:=((j- 1:Nat):Int)),?_⟩;refine⟨_,Ay (i:=j- 1),?_⟩;refine⟨_,Do hy,?_⟩;refine tqc I5 (λ_=>Hx c x y) ?_;refine tqQ ?_;have hlt:ltW c x y=decide (RM c x y<0):=I;refine Ai (λh3=>?_) λh3=>?_;rotate_left
 ·have hf:ltW c x y=false:=by rw[hlt];exact Gg h3
  refine Af (z:=((i+1:Nat):Int)) ?_;exact⟨(i+1,q),⟨tqO,hsw,hin.stop ho tqO hji hx hy hf⟩,tqP,Ac⟩
 have ht:ltW c x y=true:=by rw[hlt];exact D4 h3
 refine Ao [15,17] (tqs 0 17<| .op 17 .z) [0] [(15,0),(17,0)] [] [] λ_=>?_;refine⟨_,Cb (z:=((j- 1:Nat):Int)),?_⟩;refine⟨_,Cb (z:=((j- 1:Nat):Int)),?_⟩;refine⟨_,Ay (i:=j- 1),?_⟩;refine⟨_,Do hy,?_⟩;refine⟨_,Ay (i:=j),?_⟩;refine⟨_,Do hx,?_⟩;refine⟨_,Ay (i:=j),?_⟩;refine E8 hx ?_;refine tqQ<|⟨_,Ay (i:=j- 1),?_⟩;refine E8 (Lh hx hy) ?_;refine tqQ ?_;rw[J8 hx hy];refine Af (z:=((j- 1:Nat):Int)) ?_;exact⟨(j- 1,swp q j (j- 1)),⟨tqO,tqO,.step hsw tqO tqO tqO tqO tqO,hin.step ho tqO hji tqO hx hy ht⟩,tqP,Ac⟩
theorem MV {a b:Int}:Kv a b<0↔a<b:=by
 unfold Kv;split
 ·simp[*]
 ·split
  ·simp;omega
  ·simp;omega
theorem Ajl {a b:Int}:(Kv a b == 0)=decide (a=b):=by
 unfold Kv;rw[Be];split
 ·simp;omega
 ·split
  ·simp;omega
  ·simp;omega
variable {c:Int}
theorem FW {x y:Wu}:ltW c x y=true↔(c<=x.w.age/\c<=y.w.age/\x.pos<y.pos)\/(c<=x.w.age/\¬c<=y.w.age)\/(¬c<=x.w.age/\¬c<=y.w.age/\(y.w.prio<x.w.prio\/(y.w.prio=x.w.prio/\x.pos<y.pos))):=by
 unfold ltW RM Jo;rw[decide_eq_true_iff,Ajl];by_cases h1:c<=x.w.age
 ·by_cases h2:c<=y.w.age
  ·simp[h1,h2,MV]
  ·simp[h1,h2]
 ·by_cases h2:c<=y.w.age
  ·simp[h1,h2]
  ·by_cases h3:y.w.prio=x.w.prio
   ·simp[h1,h2,h3,MV]
   ·simp[h1,h2,h3,MV]
theorem Amy (c:Int):Ord (ltW c) where
 asym x y h:=by
  rw[FW] at h;rw[Bo,ne_eq,FW];omega
 tran x y z h1 h2:=by
  rw[Bo] at h1 h2⊢;rw[ne_eq,FW] at h1 h2⊢;omega
def Us (k:Nat):List Wt->List Wu
 | []=>[]
 |x::r=>⟨x,(k:Nat)⟩::Us (k+1) r
def wus (q:List Wt):List Wu:=Us 0 q
theorem YV:∀ {q:List Wt} {k i:Nat} {u:Wu},(Us k q)[i]? =some u↔∃x,q[i]? =some x/\u=⟨x,((k+i:Nat):Int)⟩
 | [],k,i,u=>by simp[Us]
 |x::r,k,0,u=>by simp[Us];exact⟨λh=>h.symm,λh=>h.symm⟩
 |x::r,k,i+1,u=>by
  rw[Us,Ip,YV,Ip];rw[show k+1+i=k+(i+1) by omega]
theorem GK (q:List Wt):(wus q).length=q.length:=by
 have:∀(q:List Wt) k,(Us k q).length=q.length:=by
  intro q;induction q with
  |nil=>intro;rfl
  |cons x r ih=>intro k;rw[Us,Ct,ih,Ct]
 exact this q 0
variable {q:List Wt}
theorem MO {i:Nat} {u:Wu}:(wus q)[i]? =some u↔∃x,q[i]? =some x/\u=⟨x,(i:Int)⟩:=by
 unfold wus;rw[YV,Bl]
theorem PZ:∀ {q:List Wt} {k:Nat} {x:Wt},Us k (q++[x])=Us k q++[⟨x,((k+q.length:Nat):Int)⟩]
 | [],k,x=>by simp[Us]
 |y::r,k,x=>by
  rw[E2,Us,PZ,Us,E2,Ct];rw[show k+1+r.length=k+(r.length+1) by omega]
theorem VS {x:Wt} (hx:q[k]? =some x):wus (q.take (k+1))=wus (q.take k)++[⟨x,(k:Int)⟩]:=by
 have hk:=(Aa.1 hx).1;rw[Dl,hx];show Us 0 (q.take k++[x])=_
 rw[PZ,Am,C1 tqO,Bl];rfl
theorem Y0 {u:Wu}:u∈wus q↔∃(i:Nat) (x:Wt),q[i]? =some x/\u=⟨x,(i:Int)⟩:=by
 rw[B6];exact⟨λ⟨i,h⟩=>⟨i,MO.1 h⟩,λ⟨i,h⟩=>⟨i,MO.2 h⟩⟩
theorem Alq {u v:Wu} (hu:u∈wus q) (hv:v∈wus q) (h:u.pos=v.pos):u=v:=by
 obtain⟨i,x,h1,rfl⟩:=Y0.1 hu;obtain⟨j,y,h2,rfl⟩:=Y0.1 hv;have:i=j:=by dsimp only at h;omega
 subst this;rw[h1] at h2;cases h2;rfl
theorem Anm (q:List Wt):(wus q).Pairwise λa b=>a.pos<b.pos:=by
 rw[Ds];intro i j hi hj hij;obtain⟨x,_,e1⟩:=MO.1 (A8 hi);obtain⟨y,_,e2⟩:=MO.1 (A8 hj);rw[e1,e2];dsimp only;omega
def Jk (c p:Int) (u:Wu):Bool:= !Jo c u&&decide (u.w.prio=p)
def Zn (c:Int) (q:List Wt):List Wu:=(wus q).filter (Jo c)++((wus q).filter (Jk c 3)++((wus q).filter (Jk c 2)++((wus q).filter (Jk c 1)++(wus q).filter (Jk c 0))))
def AR (c:Int) (l:List Wu):Prop:=l.Pairwise λa b=>ltW c b a=false
theorem AR.of (h:Ju (ltW c) 0 l.length l):AR c l:=by
 rw[AR,Ds];intro i j hi hj hij;exact h i j _ _ (Ax _) hij hj (A8 hi) (A8 hj)
theorem DY {x y:Wu}:ltW c y x=false↔¬((c<=y.w.age/\c<=x.w.age/\y.pos<x.pos)\/(c<=y.w.age/\¬c<=x.w.age)\/(¬c<=y.w.age/\¬c<=x.w.age/\(x.w.prio<y.w.prio\/(x.w.prio=y.w.prio/\y.pos<x.pos)))):=by
 rw[Bo,ne_eq,FW]
theorem Ahm (c:Int) (q:List Wt):AR c (Zn c q):=by
 have hA:∀p:Wu->Bool,(∀u v,p u=true->p v=true->u.pos<v.pos->ltW c v u=false)->((wus q).filter p).Pairwise λa b=>ltW c b a=false:=by
  intro p hp;have h1:=(Anm q).filter p;rw[Ds] at h1⊢;intro i j hi hj hij;have m1:=De.1 (Ua hi);have m2:=De.1 (Ua hj);exact hp _ _ m1.2 m2.2 (h1 i j hi hj hij)
 have hP:∀p,((wus q).filter (Jk c p)).Pairwise λa b=>ltW c b a=false:=λp=>hA _ λu v hu hv huv=>by
  simp only[Jk,Jo,Ad,Ei,Gc,Aq] at hu hv;rw[DY];omega
 have hX:∀p p':Int,p'<p->∀u∈(wus q).filter (Jk c p),∀v∈(wus q).filter (Jk c p'),ltW c v u=false:=by
  intro p p' hpp u hu v hv;have m1:=(De.1 hu).2;have m2:=(De.1 hv).2;simp only[Jk,Jo,Ad,Ei,Gc,Aq] at m1 m2;rw[DY];omega
 have hG:∀p:Int,∀u∈(wus q).filter (Jo c),∀v∈(wus q).filter (Jk c p),ltW c v u=false:=by
  intro p u hu v hv;have m1:=(De.1 hu).2;have m2:=(De.1 hv).2;simp only[Jk,Jo,Ad,Ei,Gc,Aq] at m1 m2;rw[DY];omega
 have or4:∀ {A B C E:List Wu} {R:Wu->Prop},(∀v∈A,R v)->(∀v∈B,R v)->(∀v∈C,R v)->(∀v∈E,R v)->∀v∈A++(B++(C++E)),R v:=by
  intro A B C E R h1 h2 h3 h4 v hv;simp only[B4] at hv;rcases hv with h|h|h|h
  ·exact h1 v h
  ·exact h2 v h
  ·exact h3 v h
  ·exact h4 v h
 unfold AR Zn;refine Hw.2 ⟨hA _ λu v hu hv huv=>by simp only[Jo,Aq] at hu hv;rw[DY];omega,?_,λu hu=>or4 (hG 3 u hu) (hG 2 u hu) (hG 1 u hu) (hG 0 u hu)⟩;refine Hw.2 ⟨hP 3,?_,λu hu v hv=>?_⟩
 ·refine Hw.2 ⟨hP 2,?_,λu hu v hv=>?_⟩
  ·exact Hw.2 ⟨hP 1,hP 0,hX 1 0 tqD⟩
  ·rcases B4.1 hv with h|h
   ·exact hX 2 1 tqD u hu v h
   ·exact hX 2 0 tqD u hu v h
 ·simp only[B4] at hv;rcases hv with h|h|h
  ·exact hX 3 2 tqD u hu v h
  ·exact hX 3 1 tqD u hu v h
  ·exact hX 3 0 tqD u hu v h
theorem TM (hq:q.all wtB=true) {u:Wu}:u∈Zn c q↔u∈wus q:=by
 unfold Zn;simp only[B4,De];constructor
 ·rintro (h|h|h|h|h)<;>exact h.1
 ·intro h;obtain⟨i,x,h1,h2⟩:=Y0.1 h;have hx:=A6.1 hq x (Av h1);simp only[wtB,Ad,Aq] at hx;have hp:0<=u.w.prio/\u.w.prio<=3:=by rw[h2];dsimp only;omega
  simp only[Jk,Jo,Ad,Ei,Gc,Aq];by_cases ha:c<=u.w.age
  ·exact .inl ⟨h,ha⟩
  ·have:u.w.prio=3\/u.w.prio=2\/u.w.prio=1\/u.w.prio=0:=by omega
   rcases this with e|e|e|e
   ·exact .inr (.inl ⟨h,ha,e⟩)
   ·exact .inr (.inr (.inl ⟨h,ha,e⟩))
   ·exact .inr (.inr (.inr (.inl ⟨h,ha,e⟩)))
   ·exact .inr (.inr (.inr (.inr ⟨h,ha,e⟩)))
theorem II {c:Int} {P:Wu->Bool}:∀ {l:List Wu} {x y:Wu},AR c l->l.find? P=some x->y∈l->P y=true->y=x\/ltW c y x=false
 | [],_,_,_,h,_,_=>by simp at h
 |z::r,x,y,hs,h,hy,hp=>by
  obtain⟨h1,h2⟩:=Xd.1 hs;rw[List.find?_cons] at h;split at h
  ·cases h;rcases Ap.1 hy with rfl|h3
   ·exact .inl I
   ·exact .inr (h1 y h3)
  ·rename_i hz;rcases Ap.1 hy with rfl|h3
   ·rw[hp] at hz;cases hz
   ·exact II h2 h h3 hp
theorem Ags {P:Wu->Bool} {m:List Wu} (hl:AR c l) (hm:AR c m) (h1:∀u,u∈l↔u∈wus q) (h2:∀u,u∈m↔u∈wus q):l.find? P=m.find? P:=by
 cases e1:l.find? P with
 |none=>
  cases e2:m.find? P with
  |none=>rfl
  |some y=>
   have hy:=M9 e2;have:=Rc.1 e1 y ((h1 y).2 ((h2 y).1 hy));exact absurd (U4 e2) this
 |some x=>
  have hx:=M9 e1;have px:=U4 e1;cases e2:m.find? P with
  |none=>exact absurd px (Rc.1 e2 x ((h2 x).2 ((h1 x).1 hx)))
  |some y=>
   have hy:=M9 e2;have py:=U4 e2;rcases II hl e1 ((h1 y).2 ((h2 y).1 hy)) py with e|k1
   ·rw[e]
   rcases II hm e2 ((h2 x).2 ((h1 x).1 hx)) px with e|k2
   ·rw[e]
   rw[DY] at k1 k2;rw[Alq ((h1 x).1 hx) ((h2 y).1 hy) tqO]
def Q3 (c:Int) (q:List Wt) (held:List Int) (u:Wu):Bool:=held.all (El u.w.mode)&&(q.take u.pos.toNat).all λo=> !decide (c<=o.age)||El u.w.mode o.mode
def Kt (c:Int) (q:List Wt) (held:List Int):Option Wu:=bif D5 q&&O1 c&&held.all Dt then(Zn c q).find? (Q3 c q held) else none
def Aau (o:Option Wu):Value:=match o with|some u=>.tuple #[.int .i64 u.pos,.bool true]|none=>.tuple #[.int .i64 0,.bool false]
def M6 (m:Int) (w:Wt):Wt:=bif El w.mode m then w else {w with age:=if w.age+1<=64 then w.age+1 else 64}
def F9 (q:List Wt) (i:Nat) (m:Int):List Wt:=(q.take i).map (M6 m)++q.drop (i+1)
def W9 (xs:List Hd):Bool:=decide (xs.Pairwise λa b=>a.site<b.site)
def Ff (xs:List Hd):Bool:=xs.all hdB&&W9 xs&&Nv (Et xs)
theorem PM {x:Hd} (hx:xs[k]? =some x) (h:(xs.take k).Pairwise λa b=>a.site<b.site) (h2:∀y,0<k->xs[k- 1]? =some y->y.site<x.site):(xs.take (k+1)).Pairwise λa b=>a.site<b.site:=by
 rw[Dl,hx];simp only[Option.toList_some];rw[Hw];refine⟨h,List.pairwise_singleton _ _,λa ha b hb=>?_⟩;rw[Bc] at hb;subst hb;obtain⟨j,hj⟩:=B6.1 ha;have hjl:=(Aa.1 hj).1;have hkl:=(Aa.1 hx).1;rw[Am] at hjl;have hl:(xs.take k)[k- 1]? =xs[k- 1]?:=Db tqO;obtain⟨y,hy⟩:=A9 (xs:=xs) (k:=k- 1);have h3:=h2 y tqO hy;by_cases he:j=k- 1
 ·subst he;rw[hl,hy] at hj;cases hj;exact h3
 ·have h4:=Ds.1 h j (k- 1) (by rw[Am];omega) (by rw[Am];omega) tqO;rw[(Aa.1 hj).2,(Aa.1 (hl.trans hy)).2] at h4;omega
theorem CE {x:Hd} (hx:xs[k]? =some x) (h:hdB x=false\/∃y,0<k/\xs[k- 1]? =some y/\x.site<=y.site):Ff xs=false:=by
 rw[Bo];intro hw;simp only[Ff,W9,Ad,Aq] at hw;rcases h with h|⟨y,h0,hy,hs⟩
 ·rw[A6.1 hw.1.1 x (Av hx)] at h;cases h
 ·obtain⟨h1,e1⟩:=Aa.1 hy;obtain⟨h2,e2⟩:=Aa.1 hx;have:=Ds.1 hw.1.2 (k- 1) k h1 h2 tqO;rw[e1,e2] at this;omega
theorem Adx (h:xs.all hdB=true):(Et xs).all Dt=true:=by
 rw[A6];intro m hm;obtain⟨x,hx,rfl⟩:=Cd.1 hm;have:=A6.1 h x hx;simp only[hdB,Ad,Aq] at this;simp[Dt];omega
theorem WG (a:Option Addr) (cap:Nat) (xs:List Hd) (hl:xs.length<=1000000):Cm prog 288 [.agg #[.slice a xs.length cap]] [] [slF hdL 3 (.slice a xs.length cap) xs] (Bd (.bool (Ff xs))):=by
 refine tqm [.g [.v (.slice a xs.length cap)]] func288 ntmps288 λ_ _=>?_;refine Br (γ:=Nat) (λk=>k<=xs.length/\(xs.take k).all hdB=true/\(xs.take k).Pairwise λa b=>a.site<b.site) (λk=>[(11,.o (.v (.int .i64 k)))]) (λ_=>[]) (λ_=>[]) (λk=>xs.length- k) 0 ⟨Ax _,I,List.Pairwise.nil⟩ Ac ?_;rintro k ⟨hk,hall,hri⟩;refine Ai (λh1=>?_) λh1=>?_;rotate_left
 ·obtain rfl:k=xs.length:=by omega
  rw[D3] at hall hri;refine Aj [] [] I7 (λ_=>AV a cap xs hl) ?_;rintro e cs F1 _ ⟨a1,c1,rfl,rfl⟩;have hml:(Et xs).length=xs.length:=by simp[Et]
  have hT:=Ab3 a1 c1 (Et xs) tqO;rw[NT,Adx hall,hml] at hT;have e:Ff xs=Nv (Et xs):=by simp[Ff,W9,hri];intro h x hx;exact A6.1 hall x hx
  rw[e];refine tqc I5 (λ_=>hT) ?_;cases Nv (Et xs)
  ·exact tqE
  ·exact tqE
 obtain⟨x,hx⟩:=A9 (xs:=xs) (k:=k);refine Dk (slF hdL 3 (.slice a xs.length cap) xs) (B1 hx) ?_;rintro ⟨b,off,rfl⟩;refine Au (Bb (i:=k)) ?_;refine Au (Cu (vs:=hdL x) (slF hdL 3 (.slice (some ⟨b,off,none⟩) xs.length cap) xs) (Du hx)) ?_;have next:(hdB x=true)->(∀y,0<k->xs[k- 1]? =some y->y.site<x.site)->(xs.take (k+1)).all hdB=true/\(xs.take (k+1)).Pairwise λa b=>a.site<b.site:=λh1 h2=>
  ⟨by rw[Dl,hx];simp[Ih];exact⟨λy hy=>A6.1 hall y hy,h1⟩,PM hx hri h2⟩
 refine Ao [1,15] (tqs 0 18<| .op 18 .z) [0,1] [] [] [slF hdL 3 (.slice (some ⟨b,off,none⟩) xs.length cap) xs] λ_=>?_;refine tqc I5 (λ_=>OL x) ?_;refine tqQ ?_;cases hw:hdB x
 ·rw[CE hx (.inl hw)];exact tqE
 refine Ai (λh2=>?_) λh2=>?_
 ·obtain⟨y,hy⟩:=A9 (xs:=xs) (k:=k- 1);refine⟨_,Cb (z:=((k- 1:Nat):Int)) (ho:=I) (hx:=I) (hy:=I) (hr:=I) (hz:=by rw[Ey]<;>omega),?_⟩;refine⟨_,Bb (i:=k- 1),?_⟩;refine⟨_,Cu (vs:=hdL y) (slF hdL 3 (.slice (some ⟨b,off,none⟩) xs.length cap) xs) (Du hy),?_⟩;refine tqc I5 (λ_=>GX y x) ?_;refine tqQ ?_;by_cases hs:y.site<x.site
  ·have e:Kv y.site x.site= -1:=by unfold Kv;rw[Bi hs]
   rw[e];refine Af (z:=(k+1:Nat)) ?_;exact⟨k+1,⟨tqO,next hw λz _ hz=>by rw[hy] at hz;cases hz;exact hs⟩,tqP,Ac⟩
  ·have e:0<=Kv y.site x.site:=by unfold Kv;rw[Ar hs];split<;>omega
   refine Ai (λ_=>?_) λh3=>absurd e h3;rw[CE hx (.inr ⟨y,tqO,hy,tqO⟩)];exact tqE
 ·refine Af (z:=(k+1:Nat)) ?_;exact⟨k+1,⟨tqO,next hw λz h0 _=>by omega⟩,tqP,Ac⟩
theorem Uj (a:Option Addr) (cap:Nat) (xs:List Hd) (hl:xs.length<=1000000):Cm prog 229 [.slice a xs.length cap] [] [slF hdL 3 (.slice a xs.length cap) xs] (Bd (.agg #[bif Ff xs then .slice a xs.length cap else .slice none 0 0,.bool (Ff xs)])):=by
 refine tqm [.o (.v (.slice a xs.length cap))] func229 ntmps229 λ_ _=>?_;refine tqc I5 (λ_=>WG a cap xs hl) ?_;cases Ff xs
 ·exact tqE
 ·exact tqE
def ZZ (xs:List Hd):Int:=bif Ff xs then 0 else 2
theorem WF (a:Option Addr) (cap:Nat) (xs:List Hd) (hl:xs.length<=1000000):Cm prog 317 [.slice a xs.length cap] [] [slF hdL 3 (.slice a xs.length cap) xs] (Bd (.int .i64 (ZZ xs))):=by
 refine tqm [.o (.v (.slice a xs.length cap))] func317 ntmps317 λ_ _=>?_;refine tqc I5 (λ_=>Uj a cap xs hl) ?_;unfold ZZ;cases Ff xs
 ·exact tqE
 ·exact tqE
theorem Rr {α:Type} {p:α->Bool} {xs:List α} (h:0<=Hl p xs):∃i x,Hl p xs=((i:Nat):Int)/\xs[i]? =some x/\p x=true:=by
 unfold Hl at h⊢;cases hf:xs.findIdx? p with
 |none=>rw[hf] at h;simp at h
 |some i=>
  obtain⟨h1,h2,_⟩:=Ii.1 hf;exact⟨i,xs[i],I,A8 h1,h2⟩
theorem Ag2 {g:Nat} (hg:Ah tb.fn g=some ()) (p:Hd->Bool) (hlen:xs.length<=1099511627776) (hc:∀x∈xs,Cm prog g (.agg (hdL x).toArray::lb) [] F0 (Bd (.bool (p x)))):
  Cm prog 290 [.slice a xs.length cap,.func (.func g) #[] lb.toArray] [] (slF hdL 3 (.slice a xs.length cap) xs::F0) (Bd (.int .i64 (Hl p xs))):=by
 refine tqm [.o (.v (.slice a xs.length cap)),.o (.v (.func (.func g) #[] lb.toArray))] func290 ntmps290 λ_ _=>?_;refine Br (γ:=Nat) (λk=>k<=xs.length/\∀(j:Nat) x,j<k->xs[j]? =some x->p x=false) (λk=>[(8,.o (.v (.int .i64 k)))]) (λ_=>[]) (λ_=>[]) (λk=>xs.length- k) 0 ⟨Ax _,λj x hj=>by omega⟩ Ac ?_;rintro k ⟨hk,hno⟩;refine Ai (λh1=>?_) λh1=>?_
 ·obtain⟨x,hx⟩:=A9 (xs:=xs) (k:=k)
  skip
  refine Dk (slF hdL 3 (.slice a xs.length cap) xs) (B1 hx) ?_;rintro ⟨b,off,rfl⟩;refine Au Bb ?_;refine Au (Cu (vs:=hdL x) (slF hdL 3 (.slice (some ⟨b,off,none⟩) xs.length cap) xs) (Du hx)) ?_;have hc2:∀ρ:Nm,Cm prog g (Gn ρ [] [TV.g [.v (.int .i64 x.site),.v (.int .i64 x.use),.v (.int .i64 x.mode)]] (lb.map PV.v)) [] F0 (Bd (.bool (p x))):=λρ=>by
   have e:Gn ρ [] [TV.g [.v (.int .i64 x.site),.v (.int .i64 x.use),.v (.int .i64 x.mode)]] (lb.map PV.v)=.agg (hdL x).toArray::lb:=(Qs ρ [TV.g [.v (.int .i64 x.site),.v (.int .i64 x.use),.v (.int .i64 x.mode)]] lb).trans I;rw[e];exact hc x (Av hx)
  refine tqc ⟨I,I,I,I,hg⟩ (λρ=>hc2 ρ) (hF0:=λf hf=>B3 _ hf) ?_;cases hb:p x
  ·refine Af (z:=(k+1:Nat)) ?_;refine⟨k+1,⟨tqO,λj y hj hy=>?_⟩,tqP,Ac⟩;rcases Bg.1 hj with h|rfl
   ·exact hno j y h hy
   ·rw[hx] at hy;cases hy;exact hb
  ·exact Al [] I2 λ_=>⟨by rw[No hno hx hb];rfl,I⟩
 ·obtain rfl:k=xs.length:=by omega
  exact Al [] I2 λ_=>⟨by rw[Mg λj x hj=>hno j x (Aa.1 hj).1 hj];rfl,I⟩
def hdZ:Hd:=⟨0,0,0⟩
def Hk (p:Hd->Bool) (xs:List Hd):Hd:=if 0<=Hl p xs then xs.getD (Hl p xs).toNat hdZ else hdZ
def NA (p:Hd->Bool) (xs:List Hd):Int:=if 0<=Hl p xs then Hl p xs else 0
theorem CB {g:Nat} (hg:Ah tb.fn g=some ()) (p:Hd->Bool) (hlen:xs.length<=1000000) (hc:∀x∈xs,Cm prog g (.agg (hdL x).toArray::lb) [] F0 (Bd (.bool (p x)))):
  Cm prog 233 [.slice a xs.length cap,.func (.func g) #[] lb.toArray] [] (slF hdL 3 (.slice a xs.length cap) xs::F0) (Bd (.tuple #[.agg (hdL (Hk p xs)).toArray,.int .i64 (NA p xs),.bool (xs.any p)])):=by
 refine tqm [.o (.v (.slice a xs.length cap)),.o (.v (.func (.func g) #[] lb.toArray))] func233 ntmps233 λ_ _=>?_;refine tqc I5 (λ_=>Ag2 hg p tqO hc) ?_;rw[<-Hq];by_cases h0:0<=Hl p xs
 ·obtain⟨i,x,hi,hx,_⟩:=Rr h0;have e1:Hk p xs=x:=by unfold Hk;rw[Bi h0,hi];simp[D1,hx]
  have e2:NA p xs=Hl p xs:=Bi h0;rw[e1,e2,show decide (0<=Hl p xs)=true by simpa using h0];have hil:=(Aa.1 hx).1;clear hc e1 e2;generalize Hl p xs=z at h0 hi;refine Ai (λh1=>?_) λh1=>?_
  ·exact absurd h1 tqO
  subst hi;refine Dk (slF hdL 3 (.slice a xs.length cap) xs) (B1 hx) ?_;rintro ⟨b,off,rfl⟩;refine Au (Bb (i:=i)) ?_;refine Au (Cu (vs:=hdL x) (slF hdL 3 (.slice (some ⟨b,off,none⟩) xs.length cap) xs) (Du hx)) ?_;exact tqE
 ·have e1:Hk p xs=hdZ:=Ar h0;have e2:NA p xs=0:=Ar h0;rw[e1,e2,show decide (0<=Hl p xs)=false by simp;omega];clear hc e1 e2;generalize Hl p xs=i at h0;refine Ai (λh1=>?_) λh1=>?_
  ·exact tqE
  ·exact absurd h1 tqO
theorem PY (x:Hd):Cm prog 234 [.agg (hdL x).toArray] [] [] (Bd (.bool (x.mode == 5))):=by
 refine tqm [.g [.v (.int .i64 x.site),.v (.int .i64 x.use),.v (.int .i64 x.mode)]] func234 ntmps234 λ_ _=>?_;refine tqc I5 (λ_=>Zh x.mode) ?_;exact tqE
def okH (xs:List Hd):List Hd:=bif Ff xs then xs else []
theorem Wl:∀A w,(slF hdL 3 (.slice none 0 0) []).h A w:=by
 intro A w;simp[slF];exact⟨none,0,⟨I,I⟩,λ_=>I⟩
theorem SK (a:Option Addr) (cap:Nat) (xs:List Hd) (hl:xs.length<=1000000):Cm prog 155 [.slice a xs.length cap] [] [slF hdL 3 (.slice a xs.length cap) xs] (Bd (.tuple #[.agg (hdL (Hk (λx=>x.mode == 5) (okH xs))).toArray,.bool ((okH xs).any λx=>x.mode == 5)])):=by
 refine tqm [.o (.v (.slice a xs.length cap))] func155 ntmps155 λ_ _=>?_;refine tqc I5 (λ_=>Uj a cap xs hl) ?_;unfold okH;cases Ff xs
 ·skip
  refine Aj (F0:=[]) [] [] I7 (λ_=>(CB (F0:=[]) (lb:=[]) (a:=none) (cap:=0) (xs:=[]) I (λx=>x.mode == 5) tqS λx _=>PY x).facts λA w h f hf=>by rw[Bc] at hf;subst hf;exact Wl A w) ?_;rintro e cs F1 _ ⟨rfl,rfl⟩;exact tqE
 ·skip
  refine tqc I5 (λ_=>CB (F0:=[]) (lb:=[]) (a:=a) (cap:=cap) (xs:=xs) I (λx=>x.mode == 5) tqO λx _=>PY x) ?_;exact tqE
theorem Ali (x:Hd) (z:Int) (b:Nat):Cm prog 289 [.agg (hdL x).toArray,.pointer (some ⟨b,0,none⟩)] [] [B9 b [.int .i64 z] 3] (Bd (.bool (x.site == z))):=by
 refine tqm [.g [.v (.int .i64 x.site),.v (.int .i64 x.use),.v (.int .i64 x.mode)],.o (.v (.pointer (some ⟨b,0,none⟩)))] func289 ntmps289 λ_ _=>?_;refine Eu (cs:=[.int .i64 z]) (b:=b) (ct:=3) ?_;exact tqE
def DV (p:Hd->Bool) (xs:List Hd):Value:=.tuple #[.agg (hdL (Hk p xs)).toArray,.int .i64 (NA p xs),.bool (xs.any p)]
def C9 (z:Int) (x:Hd):Bool:=x.site == z
theorem Sm (a:Option Addr) (cap:Nat) (xs:List Hd) (r:Bool) (z:Int) (hl:xs.length<=1000000):Cm prog 230 [.agg #[.slice a xs.length cap,.bool r],.int .i64 z] [] [slF hdL 3 (.slice a xs.length cap) xs] (Bd (DV (C9 z) xs)):=by
 refine tqm [.g [.v (.slice a xs.length cap),.v (.bool r)],.o (.v (.int .i64 z))] func230 ntmps230 λ_ _=>?_;refine Aj (F0:=[slF hdL 3 (.slice a xs.length cap) xs]) [1] [] I7 (λρ=>(CB (F0:=[B9 (ρ 1) [.int .i64 z] 3]) (lb:=[.pointer (some ⟨ρ 1,0,none⟩)]) I (C9 z) hl λx _=>Ali x z (ρ 1)).facts λA w h f hf=>h f (by simp[Mh] at hf⊢;exact hf.symm)) (hno:=.inr tqH) ?_;rintro e cs F1 _ ⟨rfl,rfl⟩;unfold DV;exact tqE
def Rm (m:Int) (x:Hd):Bool:= !(Dt x.mode&&Dt m&&El x.mode m)
theorem Ajr (x:Hd) (m:Int) (b:Nat):Cm prog 301 [.agg (hdL x).toArray,.pointer (some ⟨b,0,none⟩)] [] [B9 b [.int .i64 m] 65] (Bd (.bool (Rm m x))):=by
 refine tqm [.g [.v (.int .i64 x.site),.v (.int .i64 x.use),.v (.int .i64 x.mode)],.o (.v (.pointer (some ⟨b,0,none⟩)))] func301 ntmps301 λ_ _=>?_;refine Eu (cs:=[.int .i64 m]) (b:=b) (ct:=65) ?_;refine tqc I5 (λ_=>CI x.mode m) ?_;unfold Rm;generalize (Dt x.mode&&Dt m&&El x.mode m)=q;exact tqE
theorem Aab (a:Option Addr) (cap:Nat) (xs:List Hd) (r:Bool) (m:Int) (hl:xs.length<=1000000):Cm prog 250 [.agg #[.slice a xs.length cap,.bool r],.int .i64 m] [] [slF hdL 3 (.slice a xs.length cap) xs] (Bd (.bool (!xs.any (Rm m)))):=by
 refine tqm [.g [.v (.slice a xs.length cap),.v (.bool r)],.o (.v (.int .i64 m))] func250 ntmps250 λ_ _=>?_;refine Aj (F0:=[slF hdL 3 (.slice a xs.length cap) xs]) [1] [] I7 (λρ=>(CB (F0:=[B9 (ρ 1) [.int .i64 m] 65]) (lb:=[.pointer (some ⟨ρ 1,0,none⟩)]) I (Rm m) hl λx _=>Ajr x m (ρ 1)).facts λA w h f hf=>h f (by simp[Mh] at hf⊢;exact hf.symm)) (hno:=.inr tqH) ?_;rintro e cs F1 _ ⟨rfl,rfl⟩;exact tqE
theorem CF (a:Option Addr) (cap:Nat) (xs:List Hd) (z:Int) (hl:xs.length<=1000000):Cm prog 150 [.slice a xs.length cap,.int .i64 z] [] [slF hdL 3 (.slice a xs.length cap) xs] (Bd (.tuple #[.agg (hdL (Hk (C9 z) (okH xs))).toArray,.bool ((okH xs).any (C9 z))])):=by
 refine tqm [.o (.v (.slice a xs.length cap)),.o (.v (.int .i64 z))] func150 ntmps150 λ_ _=>?_;refine tqc I5 (λ_=>Uj a cap xs hl) ?_;unfold okH;cases Ff xs
 ·refine Aj (F0:=[]) [] [] I7 (λ_=>(Sm none 0 [] false z tqS).facts λA w h f hf=>by rw[Bc] at hf;subst hf;exact Wl A w) ?_;rintro e cs F1 _ ⟨rfl,rfl⟩;unfold DV;exact tqE
 ·refine tqc I5 (λ_=>Sm a cap xs true z hl) ?_;unfold DV;exact tqE
theorem SJ (a:Option Addr) (cap:Nat) (xs:List Hd) (hl:xs.length<=1000000):Cm prog 161 [.slice a xs.length cap] [] [slF hdL 3 (.slice a xs.length cap) xs] (SY (okH xs)):=by
 refine tqm [.o (.v (.slice a xs.length cap))] func161 ntmps161 λ_ _=>?_;refine tqc I5 (λ_=>Uj a cap xs hl) ?_;unfold okH;cases Ff xs
 ·refine Aj (F0:=[]) [] [] I7 (λ_=>(AV none 0 [] tqS).facts λA w h f hf=>by rw[Bc] at hf;subst hf;exact Wl A w) ?_;rintro e cs F1 _ ⟨a1,c1,rfl,rfl⟩;exact Al [slF Bt 1 (.slice a1 0 c1) (Et [])] I2 λ_=>⟨a1,c1,I,I⟩
 ·refine Aj [] [] I7 (λ_=>AV a cap xs hl) ?_;rintro e cs F1 _ ⟨a1,c1,rfl,rfl⟩;exact Al [slF Bt 1 (.slice a1 xs.length c1) (Et xs)] I2 λ_=>⟨a1,c1,I,I⟩
theorem PK (x:Hd):Cm prog 176 [.agg (hdL x).toArray] [] [] (Bd (.bool (hdB x))):=by
 obtain⟨site,use,mode⟩:=x;refine tqm [.g [.v (.int .i64 site),.v (.int .i64 use),.v (.int .i64 mode)]] func176 ntmps176 λ_ _=>?_;repeat' (first|refine Ai (λ_=>?_) (λ_=>?_)|refine A7 (λ_=>?_) (λ_=>?_)|(refine Al [] I2 λ_=>⟨Bx ?_,rfl⟩;(rw[Be];simp[hdB,Dt] at* <;>(try dsimp only at*)<;>first|omega|(simp_all;done)|(simp_all;omega)))|(refine Aj [] [] I7 (λ_=>Ux _) ?_;rintro e cs F1 _ ⟨rfl,rfl⟩))
theorem HN (a:Option Addr) (cap:Nat) (xs:List Hd) (hl:xs.length<=1000000):Cm prog 169 [.slice a xs.length cap] [] [slF hdL 3 (.slice a xs.length cap) xs] (SY xs):=by
 refine tqm [.o (.v (.slice a xs.length cap))] func169 ntmps169 λ_ _=>?_;refine Rl (MM 65 1) ?_;refine Br (γ:=Nat×Option Addr×Nat) (λg=>g.1<=xs.length) (λg=>[(4,.o (.v (.int .i64 g.1))),(3,.o (.v (.slice g.2.1 g.1 g.2.2)))]) (λg=>[(0,.own (.slice g.2.1 g.1 g.2.2) 65 1 g.1 ((Et (xs.take g.1)).flatMap Bt))]) (λ_=>[]) (λg=>xs.length- g.1) (0,none,0) (Ax _) Ac ?_;rintro ⟨k,a1,c1⟩ hk;simp only at hk;refine Ai (λh1=>?_) λh1=>?_;rotate_left
 ·obtain rfl:k=xs.length:=by dsimp only at h1;omega
  refine Dj (D8 (j:=0) (v:=.slice a1 xs.length c1) (m:=xs.length) (enc:=Bt) (xs:=Et xs) (.inl I) (λ_=>I) (by simp[Et]) (by rw[<-D3 (l:=xs)];simp only[D3];rfl)) ?_;exact Al [slF Bt 1 (.slice a1 xs.length c1) (Et xs)] I2 λ_=>⟨a1,c1,I,I⟩
 obtain⟨x,hx⟩:=A9 (xs:=xs) (k:=k) (h:=by dsimp only at h1;omega);refine Dk (slF hdL 3 (.slice a xs.length cap) xs) (B1 hx) ?_;rintro ⟨b,off,rfl⟩;refine Au (Bb (i:=k) (hz:=I) (ho:=I) (he:=I) (hx:=I) (hix:=I) (hi:=by dsimp only at h1;omega)) ?_;refine Au (Ce (slF hdL 3 (.slice (some ⟨b,off,none⟩) xs.length cap) xs) (Eg hx (j:=2) I)) ?_;refine Dq 0 (m':=1) (news:=[.int .i64 x.mode]) I I I I I I I I I tqD I I I (Uq (news:=[.int .i64 x.mode]) I I) I (by simp[Value.oneCell']) tqO tqM ?_;intro a2 c2;refine Af (z:=(k+1:Nat)) ?_;refine⟨(k+1,a2,c2),by dsimp only at h1;dsimp only;omega,by dsimp only at h1;dsimp only;omega,?_⟩;simp only[HE hx];exact Ac
theorem Yl (a:Option Addr) (cap:Nat) (xs:List Hd) (z:Int) (hl:xs.length<=1000000):Cm prog 166 [.slice a xs.length cap,.int .i64 z] [] [slF hdL 3 (.slice a xs.length cap) xs] (Bd (.int .i64 (Hl (C9 z) xs))):=by
 refine tqm [.o (.v (.slice a xs.length cap)),.o (.v (.int .i64 z))] func166 ntmps166 λ_ _=>?_;refine Br (γ:=Nat) (λk=>k<=xs.length/\∀(j:Nat) x,j<k->xs[j]? =some x->C9 z x=false) (λk=>[(5,.o (.v (.int .i64 k)))]) (λ_=>[]) (λ_=>[]) (λk=>xs.length- k) 0 ⟨Ax _,λj x hj=>by omega⟩ Ac ?_;rintro k ⟨hk,hno⟩;refine Ai (λh1=>?_) λh1=>?_
 ·obtain⟨x,hx⟩:=A9 (xs:=xs) (k:=k);refine Dk (slF hdL 3 (.slice a xs.length cap) xs) (B1 hx) ?_;rintro ⟨b,off,rfl⟩;refine Au Bb ?_;refine Au (Ce (slF hdL 3 (.slice (some ⟨b,off,none⟩) xs.length cap) xs) (Eg hx (j:=0) I)) ?_;refine A7 (λh2=>?_) λh2=>?_
  ·rw[No hno hx h2];exact tqE
  ·refine Af (z:=(k+1:Nat)) ?_;refine⟨k+1,⟨tqO,λj y hj hy=>?_⟩,tqP,Ac⟩;rcases Bg.1 hj with h|rfl
   ·exact hno j y h hy
   ·rw[hx] at hy;cases hy;exact h2
 ·rw[Mg (λj x hj=>hno j x (by have:=(Aa.1 hj).1;omega) hj)];exact tqE
theorem All {xs:List Int} {j:Nat} {x y:Int} (hjk:j<k) (hx:xs[k]? =some x) (hy:xs[j]? =some y) (h:El x y=false):Nv xs=false:=by
 rw[Bo];intro hw;simp only[Nv,Aq] at hw;obtain⟨h1,e1⟩:=Aa.1 hy;obtain⟨h2,e2⟩:=Aa.1 hx;have:=Ds.1 hw j k h1 h2 hjk;rw[e1,e2,h] at this;cases this
theorem Ah0 (a:Option Addr) (cap:Nat) (xs:List Int) (hl:xs.length<=1000000):Cm prog 177 [.slice a xs.length cap] [] [slF Bt 1 (.slice a xs.length cap) xs] (Bd (.bool (Nv xs))):=by
 refine tqm [.o (.v (.slice a xs.length cap))] func177 ntmps177 λ_ _=>?_;refine Br (γ:=Nat) (λk=>k<=xs.length/\Nv (xs.take k)=true) (λk=>[(3,.o (.v (.int .i64 k)))]) (λ_=>[]) (λ_=>[]) (λk=>xs.length- k) 0 ⟨Ax _,by simp[Nv]⟩ Ac ?_;rintro k ⟨hk,htog⟩;refine Ai (λh1=>?_) λh1=>?_;rotate_left
 ·obtain rfl:k=xs.length:=by omega
  rw[D3] at htog;rw[htog];exact tqE
 obtain⟨x,hx⟩:=A9 (xs:=xs) (k:=k);refine Br (γ:=Nat) (λj=>j<=k/\∀(i:Nat) y,i<j->xs[i]? =some y->El x y=true) (λj=>[(4,.o (.v (.int .i64 j)))]) (λ_=>[]) (λ_=>[]) (λj=>k- j) 0 ⟨Ax _,λi y hi=>by omega⟩ Ac ?_;rintro j ⟨hj,hfit⟩;refine Ai (λh2=>?_) λh2=>?_;rotate_left
 ·obtain rfl:j=k:=by omega
  refine Af (z:=((j+1:Nat):Int)) ?_;refine⟨j+1,⟨tqO,?_⟩,tqP,Ac⟩;rw[Dl,hx];show Nv (xs.take j++[x])=true
  rw[PS,htog,C8,A6];intro y hy;obtain⟨i,hi⟩:=B6.1 hy;have hil:=(Aa.1 hi).1;rw[Am] at hil;rw[Db tqO] at hi;exact hfit i y tqO hi
 obtain⟨y,hy⟩:=A9 (xs:=xs) (k:=j);refine Ec (slF Bt 1 (.slice a xs.length cap) xs) (B1 hx) ?_;rintro ⟨b,off,rfl⟩;refine Ao [8] (tqs 0 9<| .op 9 .z) [] [] [] [slF Bt 1 (.slice (some ⟨b,off,none⟩) xs.length cap) xs] λ_=>?_;refine⟨_,Bb (i:=k),?_⟩;refine⟨_,Ce (slF Bt 1 (.slice (some ⟨b,off,none⟩) xs.length cap) xs) (Eg hx (j:=0) I),?_⟩;refine⟨_,Bb (i:=j),?_⟩;refine⟨_,Ce (slF Bt 1 (.slice (some ⟨b,off,none⟩) xs.length cap) xs) (Eg hy (j:=0) I),?_⟩;refine tqc I5 (λ_=>Xo x y) ?_;refine tqQ ?_;cases hf:El x y
 ·rw[All tqO hx hy hf];exact tqE
 ·refine Af (z:=((j+1:Nat):Int)) ?_;refine⟨j+1,⟨tqO,λi y' hi hy'=>?_⟩,tqP,Ac⟩;rcases Bg.1 hi with h|rfl
  ·exact hfit i y' h hy'
  ·rw[hy] at hy';cases hy';exact hf
theorem CT (a:Option Addr) (cap:Nat) (xs:List Hd) (hl:xs.length<=1000000):Cm prog 104 [.slice a xs.length cap] [] [slF hdL 3 (.slice a xs.length cap) xs] (Bd (.bool (Ff xs))):=by
 refine tqm [.o (.v (.slice a xs.length cap))] func104 ntmps104 λ_ _=>?_;refine Br (γ:=Nat) (λk=>k<=xs.length/\(xs.take k).all hdB=true/\(xs.take k).Pairwise λa b=>a.site<b.site) (λk=>[(3,.o (.v (.int .i64 k)))]) (λ_=>[]) (λ_=>[]) (λk=>xs.length- k) 0 ⟨Ax _,I,List.Pairwise.nil⟩ Ac ?_;rintro k ⟨hk,hall,hri⟩;refine Ai (λh1=>?_) λh1=>?_;rotate_left
 ·obtain rfl:k=xs.length:=by omega
  rw[D3] at hall hri;refine Aj [] [] I7 (λ_=>HN a cap xs hl) ?_;rintro e cs F1 _ ⟨a1,c1,rfl,rfl⟩;have hml:(Et xs).length=xs.length:=by simp[Et]
  have hT:=Ah0 a1 c1 (Et xs) tqO;rw[hml] at hT;have e:Ff xs=Nv (Et xs):=by simp[Ff,W9,hri];intro h x hx;exact A6.1 hall x hx
  rw[e];refine tqc I5 (λ_=>hT) ?_;exact tqE
 obtain⟨x,hx⟩:=A9 (xs:=xs) (k:=k);refine Ec (slF hdL 3 (.slice a xs.length cap) xs) (B1 hx) ?_;rintro ⟨b,off,rfl⟩;have next:(hdB x=true)->(∀y,0<k->xs[k- 1]? =some y->y.site<x.site)->(xs.take (k+1)).all hdB=true/\(xs.take (k+1)).Pairwise λa b=>a.site<b.site:=λh1 h2=>
  ⟨by rw[Dl,hx];simp[Ih];exact⟨λy hy=>A6.1 hall y hy,h1⟩,PM hx hri h2⟩
 refine Ao [4] (tqs 0 23<| .op 23 .z) [] [] [] [slF hdL 3 (.slice (some ⟨b,off,none⟩) xs.length cap) xs] λ_=>?_;refine⟨_,Bb (i:=k),?_⟩;refine⟨_,Cu (vs:=hdL x) (slF hdL 3 (.slice (some ⟨b,off,none⟩) xs.length cap) xs) (Du hx),?_⟩;refine tqc I5 (λ_=>PK x) ?_;refine tqQ ?_;cases hw:hdB x
 ·rw[CE hx (.inl hw)];exact tqE
 refine Ai (λh2=>?_) λh2=>?_
 ·obtain⟨y,hy⟩:=A9 (xs:=xs) (k:=k- 1);refine⟨_,Cb (z:=((k- 1:Nat):Int)) (ho:=I) (hx:=I) (hy:=I) (hr:=I) (hz:=by rw[Ey]<;>omega),?_⟩;refine⟨_,Bb (i:=k- 1),?_⟩;refine⟨_,Ce (slF hdL 3 (.slice (some ⟨b,off,none⟩) xs.length cap) xs) (Eg hy (j:=0) I),?_⟩;refine⟨_,Bb (i:=k),?_⟩;refine⟨_,Ce (slF hdL 3 (.slice (some ⟨b,off,none⟩) xs.length cap) xs) (Eg hx (j:=0) I),?_⟩;refine Ai (λh3=>?_) λh3=>?_
  ·rw[CE hx (.inr ⟨y,tqO,hy,tqO⟩)];exact tqE
  ·refine Af (z:=(k+1:Nat)) ?_;exact⟨k+1,⟨tqO,next hw λz _ hz=>by rw[hy] at hz;cases hz;omega⟩,tqP,Ac⟩
 ·refine Af (z:=(k+1:Nat)) ?_;exact⟨k+1,⟨tqO,next hw λz h0 _=>by omega⟩,tqP,Ac⟩
deriving instance DecidableEq for Hd
deriving instance DecidableEq for Wt
theorem Ac8:Mf prog 9 170=some [4,4,4]:=tqK
theorem Amu:Ui prog 170=true:=tqK
theorem Ada:Mf prog 9 167=some [4,4,4,4,4]:=tqK
theorem Amv:Ui prog 167=true:=tqK
theorem Ai6 (x y:Hd):Il [4,4,4] (hdL x) (hdL y)=some (decide (x=y)):=by
 obtain⟨a,b,c⟩:=x;obtain⟨d,e,f⟩:=y;have h:Il [4,4,4] (hdL ⟨a,b,c⟩) (hdL ⟨d,e,f⟩)=some (a == d&&(b == e&&(c == f&&true))):=I;rw[h]
 congr 1
 rw[Be];simp
theorem Ai7 (x y:Wt):Il [4,4,4,4,4] (wtL x) (wtL y)=some (decide (x=y)):=by
 obtain⟨a,b,c,p,q⟩:=x;obtain⟨d,e,f,r,s⟩:=y;have h:Il [4,4,4,4,4] (wtL ⟨a,b,c,p,q⟩) (wtL ⟨d,e,f,r,s⟩)=some (a == d&&(b == e&&(c == f&&(p == r&&(q == s&&true))))):=I;rw[h]
 congr 1
 rw[Be];simp
theorem Ye {α:Type} {xs ys:List α} {x y:α} (hx:xs[k]? =some x) (hy:ys[k]? =some y) (h:x≠y):xs≠ys:=by
 rintro rfl;rw[hx] at hy;exact h (Ij hy)
theorem Al4 (a a2:Option Addr) (cap cap2:Nat) (xs ys:List Hd) (hl:xs.length<=1000000) (hl2:ys.length<=1000000):Cm prog 223 [.slice a xs.length cap,.slice a2 ys.length cap2] [] [slF hdL 3 (.slice a xs.length cap) xs,slF hdL 3 (.slice a2 ys.length cap2) ys] (Bd (.bool (decide (xs=ys)))):=by
 refine tqm [.o (.v (.slice a xs.length cap)),.o (.v (.slice a2 ys.length cap2))] func223 ntmps223 λ_ _=>?_;refine A7 (λh0=>?_) λh0=>?_
 ·have e:decide (xs=ys)=false:=by simp at h0;simp;rintro rfl;exact h0 I
  rw[e];exact tqE
 have hlen:xs.length=ys.length:=by simp at h0;omega
 refine Br (γ:=Nat) (λk=>k<=xs.length/\∀j,j<k->xs[j]? =ys[j]?) (λk=>[(13,.o (.v (.int .i64 k)))]) (λ_=>[]) (λ_=>[]) (λk=>xs.length- k) 0 ⟨Ax _,λj hj=>by omega⟩ Ac ?_;rintro k ⟨hk,heq⟩;refine Ai (λh1=>?_) λh1=>?_;rotate_left
 ·have e:decide (xs=ys)=true:=by
   simp only[Aq];refine F6 λj=>?_;by_cases hj:j<k
   ·exact heq j hj
   ·rw[Cg tqO,Cg tqO]
  rw[e];exact tqE
 obtain⟨x,hx⟩:=A9 (xs:=xs) (k:=k);obtain⟨y,hy⟩:=A9 (xs:=ys) (k:=k);refine Ec (slF hdL 3 (.slice a xs.length cap) xs) (B1 hx) ?_;rintro ⟨b,off,rfl⟩;refine Ec (slF hdL 3 (.slice a2 ys.length cap2) ys) (B1 hy) ?_;rintro ⟨b2,off2,rfl⟩;refine Ao [] (tqs 0 8<| .op 8 .z) [] [] [] [slF hdL 3 (.slice (some ⟨b,off,none⟩) xs.length cap) xs,slF hdL 3 (.slice (some ⟨b2,off2,none⟩) ys.length cap2) ys] λ_=>?_;refine⟨_,Bb (i:=k),?_⟩;refine⟨_,Cu (vs:=hdL x) (slF hdL 3 (.slice (some ⟨b,off,none⟩) xs.length cap) xs) (Du hx),?_⟩;refine⟨_,Bb (i:=k),?_⟩;refine⟨_,Cu (vs:=hdL y) (slF hdL 3 (.slice (some ⟨b2,off2,none⟩) ys.length cap2) ys) (Du hy),?_⟩;refine⟨_,Ny (xs:=hdL x) (ys:=hdL y) (r:=decide (x=y)) (ks:=[4,4,4]) Ac8 Amu I I I (λ_=>I) (λ_=>I) (Ai6 x y),?_⟩;by_cases hxy:x=y
 ·rw[show decide (x=y)=true by simpa using hxy];refine Af (z:=(k+1:Nat)) ?_;refine⟨k+1,⟨tqO,λj hj=>?_⟩,tqP,Ac⟩;rcases Bg.1 hj with h|rfl
  ·exact heq j h
  ·rw[hx,hy,hxy]
 ·rw[show decide (x=y)=false by simpa using hxy,show decide (xs=ys)=false by simpa using Ye hx hy hxy];exact tqE
theorem Abf (a a2:Option Addr) (cap cap2:Nat) (xs ys:List Hd) (hl:xs.length<=1000000) (hl2:ys.length<=1000000):Cm prog 98 [.slice a xs.length cap,.slice a2 ys.length cap2] [] [slF hdL 3 (.slice a xs.length cap) xs,slF hdL 3 (.slice a2 ys.length cap2) ys] (Bd (.bool (decide (xs=ys)))):=by
 refine tqm [.o (.v (.slice a xs.length cap)),.o (.v (.slice a2 ys.length cap2))] func98 ntmps98 λ_ _=>?_;refine A7 (λh0=>?_) λh0=>?_
 ·have e:decide (xs=ys)=false:=by simp at h0;simp;rintro rfl;exact h0 I
  rw[e];exact tqE
 have hlen:xs.length=ys.length:=by simp at h0;omega
 refine Br (γ:=Nat) (λk=>k<=xs.length/\∀j,j<k->xs[j]? =ys[j]?) (λk=>[(5,.o (.v (.int .i64 k)))]) (λ_=>[]) (λ_=>[]) (λk=>xs.length- k) 0 ⟨Ax _,λj hj=>by omega⟩ Ac ?_;rintro k ⟨hk,heq⟩;refine Ai (λh1=>?_) λh1=>?_;rotate_left
 ·have e:decide (xs=ys)=true:=by
   simp only[Aq];refine F6 λj=>?_;by_cases hj:j<k
   ·exact heq j hj
   ·rw[Cg tqO,Cg tqO]
  rw[e];exact tqE
 obtain⟨x,hx⟩:=A9 (xs:=xs) (k:=k);obtain⟨y,hy⟩:=A9 (xs:=ys) (k:=k);refine Ec (slF hdL 3 (.slice a xs.length cap) xs) (B1 hx) ?_;rintro ⟨b,off,rfl⟩;refine Ec (slF hdL 3 (.slice a2 ys.length cap2) ys) (B1 hy) ?_;rintro ⟨b2,off2,rfl⟩;refine Ao [] (tqs 0 8<| .op 8 .z) [] [] [] [slF hdL 3 (.slice (some ⟨b,off,none⟩) xs.length cap) xs,slF hdL 3 (.slice (some ⟨b2,off2,none⟩) ys.length cap2) ys] λ_=>?_;refine⟨_,Bb (i:=k),?_⟩;refine⟨_,Cu (vs:=hdL x) (slF hdL 3 (.slice (some ⟨b,off,none⟩) xs.length cap) xs) (Du hx),?_⟩;refine⟨_,Bb (i:=k),?_⟩;refine⟨_,Cu (vs:=hdL y) (slF hdL 3 (.slice (some ⟨b2,off2,none⟩) ys.length cap2) ys) (Du hy),?_⟩;refine⟨_,Ny (xs:=hdL x) (ys:=hdL y) (r:=decide (x=y)) (ks:=[4,4,4]) Ac8 Amu I I I (λ_=>I) (λ_=>I) (Ai6 x y),?_⟩;by_cases hxy:x=y
 ·rw[show decide (x=y)=true by simpa using hxy];refine Af (z:=(k+1:Nat)) ?_;refine⟨k+1,⟨tqO,λj hj=>?_⟩,tqP,Ac⟩;rcases Bg.1 hj with h|rfl
  ·exact heq j h
  ·rw[hx,hy,hxy]
 ·rw[show decide (x=y)=false by simpa using hxy,show decide (xs=ys)=false by simpa using Ye hx hy hxy];exact tqE
theorem Al5 (a a2:Option Addr) (cap cap2:Nat) (xs ys:List Wt) (hl:xs.length<=1000000) (hl2:ys.length<=1000000):Cm prog 222 [.slice a xs.length cap,.slice a2 ys.length cap2] [] [slF wtL 5 (.slice a xs.length cap) xs,slF wtL 5 (.slice a2 ys.length cap2) ys] (Bd (.bool (decide (xs=ys)))):=by
 refine tqm [.o (.v (.slice a xs.length cap)),.o (.v (.slice a2 ys.length cap2))] func222 ntmps222 λ_ _=>?_;refine A7 (λh0=>?_) λh0=>?_
 ·have e:decide (xs=ys)=false:=by simp at h0;simp;rintro rfl;exact h0 I
  rw[e];exact tqE
 have hlen:xs.length=ys.length:=by simp at h0;omega
 refine Br (γ:=Nat) (λk=>k<=xs.length/\∀j,j<k->xs[j]? =ys[j]?) (λk=>[(13,.o (.v (.int .i64 k)))]) (λ_=>[]) (λ_=>[]) (λk=>xs.length- k) 0 ⟨Ax _,λj hj=>by omega⟩ Ac ?_;rintro k ⟨hk,heq⟩;refine Ai (λh1=>?_) λh1=>?_;rotate_left
 ·have e:decide (xs=ys)=true:=by
   simp only[Aq];refine F6 λj=>?_;by_cases hj:j<k
   ·exact heq j hj
   ·rw[Cg tqO,Cg tqO]
  rw[e];exact tqE
 obtain⟨x,hx⟩:=A9 (xs:=xs) (k:=k);obtain⟨y,hy⟩:=A9 (xs:=ys) (k:=k);refine Ec (slF wtL 5 (.slice a xs.length cap) xs) (B1 hx) ?_;rintro ⟨b,off,rfl⟩;refine Ec (slF wtL 5 (.slice a2 ys.length cap2) ys) (B1 hy) ?_;rintro ⟨b2,off2,rfl⟩;refine Ao [] (tqs 0 8<| .op 8 .z) [] [] [] [slF wtL 5 (.slice (some ⟨b,off,none⟩) xs.length cap) xs,slF wtL 5 (.slice (some ⟨b2,off2,none⟩) ys.length cap2) ys] λ_=>?_;refine⟨_,Bb (i:=k),?_⟩;refine⟨_,Cu (vs:=wtL x) (slF wtL 5 (.slice (some ⟨b,off,none⟩) xs.length cap) xs) (Du hx),?_⟩;refine⟨_,Bb (i:=k),?_⟩;refine⟨_,Cu (vs:=wtL y) (slF wtL 5 (.slice (some ⟨b2,off2,none⟩) ys.length cap2) ys) (Du hy),?_⟩;refine⟨_,Ny (xs:=wtL x) (ys:=wtL y) (r:=decide (x=y)) (ks:=[4,4,4,4,4]) Ada Amv I I I (λ_=>I) (λ_=>I) (Ai7 x y),?_⟩;by_cases hxy:x=y
 ·rw[show decide (x=y)=true by simpa using hxy];refine Af (z:=(k+1:Nat)) ?_;refine⟨k+1,⟨tqO,λj hj=>?_⟩,tqP,Ac⟩;rcases Bg.1 hj with h|rfl
  ·exact heq j h
  ·rw[hx,hy,hxy]
 ·rw[show decide (x=y)=false by simpa using hxy,show decide (xs=ys)=false by simpa using Ye hx hy hxy];exact tqE
theorem Abg (a a2:Option Addr) (cap cap2:Nat) (xs ys:List Wt) (hl:xs.length<=1000000) (hl2:ys.length<=1000000):Cm prog 97 [.slice a xs.length cap,.slice a2 ys.length cap2] [] [slF wtL 5 (.slice a xs.length cap) xs,slF wtL 5 (.slice a2 ys.length cap2) ys] (Bd (.bool (decide (xs=ys)))):=by
 refine tqm [.o (.v (.slice a xs.length cap)),.o (.v (.slice a2 ys.length cap2))] func97 ntmps97 λ_ _=>?_;refine A7 (λh0=>?_) λh0=>?_
 ·have e:decide (xs=ys)=false:=by simp at h0;simp;rintro rfl;exact h0 I
  rw[e];exact tqE
 have hlen:xs.length=ys.length:=by simp at h0;omega
 refine Br (γ:=Nat) (λk=>k<=xs.length/\∀j,j<k->xs[j]? =ys[j]?) (λk=>[(5,.o (.v (.int .i64 k)))]) (λ_=>[]) (λ_=>[]) (λk=>xs.length- k) 0 ⟨Ax _,λj hj=>by omega⟩ Ac ?_;rintro k ⟨hk,heq⟩;refine Ai (λh1=>?_) λh1=>?_;rotate_left
 ·have e:decide (xs=ys)=true:=by
   simp only[Aq];refine F6 λj=>?_;by_cases hj:j<k
   ·exact heq j hj
   ·rw[Cg tqO,Cg tqO]
  rw[e];exact tqE
 obtain⟨x,hx⟩:=A9 (xs:=xs) (k:=k);obtain⟨y,hy⟩:=A9 (xs:=ys) (k:=k);refine Ec (slF wtL 5 (.slice a xs.length cap) xs) (B1 hx) ?_;rintro ⟨b,off,rfl⟩;refine Ec (slF wtL 5 (.slice a2 ys.length cap2) ys) (B1 hy) ?_;rintro ⟨b2,off2,rfl⟩;refine Ao [] (tqs 0 8<| .op 8 .z) [] [] [] [slF wtL 5 (.slice (some ⟨b,off,none⟩) xs.length cap) xs,slF wtL 5 (.slice (some ⟨b2,off2,none⟩) ys.length cap2) ys] λ_=>?_;refine⟨_,Bb (i:=k),?_⟩;refine⟨_,Cu (vs:=wtL x) (slF wtL 5 (.slice (some ⟨b,off,none⟩) xs.length cap) xs) (Du hx),?_⟩;refine⟨_,Bb (i:=k),?_⟩;refine⟨_,Cu (vs:=wtL y) (slF wtL 5 (.slice (some ⟨b2,off2,none⟩) ys.length cap2) ys) (Du hy),?_⟩;refine⟨_,Ny (xs:=wtL x) (ys:=wtL y) (r:=decide (x=y)) (ks:=[4,4,4,4,4]) Ada Amv I I I (λ_=>I) (λ_=>I) (Ai7 x y),?_⟩;by_cases hxy:x=y
 ·rw[show decide (x=y)=true by simpa using hxy];refine Af (z:=(k+1:Nat)) ?_;refine⟨k+1,⟨tqO,λj hj=>?_⟩,tqP,Ac⟩;rcases Bg.1 hj with h|rfl
  ·exact heq j h
  ·rw[hx,hy,hxy]
 ·rw[show decide (x=y)=false by simpa using hxy,show decide (xs=ys)=false by simpa using Ye hx hy hxy];exact tqE
theorem An0 (a a2:Option Addr) (cap cap2:Nat) (xs ys:List Int) (hl:xs.length<=1000000) (hl2:ys.length<=1000000):Cm prog 221 [.slice a xs.length cap,.slice a2 ys.length cap2] [] [slF Bt 1 (.slice a xs.length cap) xs,slF Bt 1 (.slice a2 ys.length cap2) ys] (Bd (.bool (decide (xs=ys)))):=by
 refine tqm [.o (.v (.slice a xs.length cap)),.o (.v (.slice a2 ys.length cap2))] func221 ntmps221 λ_ _=>?_;refine A7 (λh0=>?_) λh0=>?_
 ·have e:decide (xs=ys)=false:=by simp at h0;simp;rintro rfl;exact h0 I
  rw[e];exact tqE
 have hlen:xs.length=ys.length:=by simp at h0;omega
 refine Br (γ:=Nat) (λk=>k<=xs.length/\∀j,j<k->xs[j]? =ys[j]?) (λk=>[(13,.o (.v (.int .i64 k)))]) (λ_=>[]) (λ_=>[]) (λk=>xs.length- k) 0 ⟨Ax _,λj hj=>by omega⟩ Ac ?_;rintro k ⟨hk,heq⟩;refine Ai (λh1=>?_) λh1=>?_;rotate_left
 ·have e:decide (xs=ys)=true:=by
   simp only[Aq];refine F6 λj=>?_;by_cases hj:j<k
   ·exact heq j hj
   ·rw[Cg tqO,Cg tqO]
  rw[e];exact tqE
 obtain⟨x,hx⟩:=A9 (xs:=xs) (k:=k);obtain⟨y,hy⟩:=A9 (xs:=ys) (k:=k);refine Ec (slF Bt 1 (.slice a xs.length cap) xs) (B1 hx) ?_;rintro ⟨b,off,rfl⟩;refine Ec (slF Bt 1 (.slice a2 ys.length cap2) ys) (B1 hy) ?_;rintro ⟨b2,off2,rfl⟩;refine Ao [] (tqs 0 8<| .op 8 .z) [] [] [] [slF Bt 1 (.slice (some ⟨b,off,none⟩) xs.length cap) xs,slF Bt 1 (.slice (some ⟨b2,off2,none⟩) ys.length cap2) ys] λ_=>?_;refine⟨_,Bb (i:=k),?_⟩;refine⟨_,Ce (slF Bt 1 (.slice (some ⟨b,off,none⟩) xs.length cap) xs) (Eg hx (j:=0) I),?_⟩;refine⟨_,Bb (i:=k),?_⟩;refine⟨_,Ce (slF Bt 1 (.slice (some ⟨b2,off2,none⟩) ys.length cap2) ys) (Eg hy (j:=0) I),?_⟩;refine A7 (λhxy=>?_) λhxy=>?_;rotate_left
 ·have hxy:x=y:=by simpa using hxy
  refine Af (z:=(k+1:Nat)) ?_;refine⟨k+1,⟨tqO,λj hj=>?_⟩,tqP,Ac⟩;rcases Bg.1 hj with h|rfl
  ·exact heq j h
  ·rw[hx,hy,hxy]
 ·have hxy:x≠y:=by simpa using hxy
  rw[show decide (xs=ys)=false by simpa using Ye hx hy hxy];exact tqE
end Go.Proofs.YtjofafbkkpdgbaaGreat
