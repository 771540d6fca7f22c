/- A part of the proof of LockOpens: rules and contracts. No condition. -/
import Derived.Test.YtjofafbkkpdgbaaGreatPnao
set_option maxRecDepth 100000
set_option maxHeartbeats 4000000
set_option linter.all false
namespace Go.Proofs.YtjofafbkkpdgbaaGreat
open Go.Proofs.Tryz
section
variable {α:Type} {lt:α->α->Bool} {a lo hi r:Nat} {l:List α}
theorem Ord.irr (ho:Ord lt) (x:α):lt x x=false:=by
 cases hb:lt x x
 ·rfl
 ·have h9:=ho.asym _ _ hb;rw[hb] at h9;cases h9
def HpS (lt:α->α->Bool) (a lo hi r:Nat) (l:List α):Prop:=∀p ch x y,lo<=p->p≠r->(ch=2*p+1\/ch=2*p+2)->ch<hi->l[a+p]? =some x->l[a+ch]? =some y->lt x y=false
def HpG (lt:α->α->Bool) (a lo hi r:Nat) (l:List α):Prop:=∀g ch x y,lo<=g->(r=2*g+1\/r=2*g+2)->(ch=2*r+1\/ch=2*r+2)->ch<hi->l[a+g]? =some x->l[a+ch]? =some y->lt x y=false
def HpF (lt:α->α->Bool) (a lo hi:Nat) (l:List α):Prop:=∀p ch x y,lo<=p->(ch=2*p+1\/ch=2*p+2)->ch<hi->l[a+p]? =some x->l[a+ch]? =some y->lt x y=false
theorem HpS.leaf (h:HpS lt a lo hi r l) (hr:hi<=2*r+1):HpF lt a lo hi l:=λp ch x y h1 h2 h3 h4 h5=>by
 by_cases hp:p=r
 ·omega
 ·exact h p ch x y h1 hp h2 h3 h4 h5
theorem HpF.skip (h:HpF lt a (lo+1) hi l):HpS lt a lo hi lo l:=λp ch x y h1 h2 h3 h4 h5 h6=>h p ch x y tqO h3 h4 h5 h6
theorem HpG.top:HpG lt a lo hi lo l:=λg ch x y h1 h2=>by omega
theorem HpS.stop {x y:α} (ho:Ord lt) (h:HpS lt a lo hi r l) (hx:l[a+r]? =some x) (hmax:∀o z,(o=2*r+1\/o=2*r+2)->o<hi->l[a+o]? =some z->lt y z=false) (hn:lt x y=false):HpF lt a lo hi l:=by
 intro p ch u v h1 h2 h3 h4 h5;by_cases hp:p=r
 ·subst hp;rw[hx] at h4;cases h4;exact ho.tran v y x (hmax ch v h2 h3 h5) hn
 ·exact h p ch u v h1 hp h2 h3 h4 h5
theorem HpS.step [Inhabited α] {m:Nat} {x y:α} (ho:Ord lt) (h:HpS lt a lo hi r l) (hg:HpG lt a lo hi r l) (hl:a+hi<=l.length) (hm:m=2*r+1\/m=2*r+2) (hmh:m<hi) (hlo:lo<=r) (hx:l[a+r]? =some x) (hy:l[a+m]? =some y) (hmax:∀o z,(o=2*r+1\/o=2*r+2)->o<hi->l[a+o]? =some z->lt y z=false) (hn:lt x y=true):HpS lt a lo hi m (swp l (a+r) (a+m))/\HpG lt a lo hi m (swp l (a+r) (a+m)):=by
 have at_:∀k,(swp l (a+r) (a+m))[a+k]? =if k=m then some x else if k=r then some y else l[a+k]?:=λk=>by
  rw[Li tqO tqO,hx,hy];by_cases h1:k=m
  ·rw[Bi tqO,Bi h1]
  ·rw[Ar tqO,Ar h1];by_cases h2:k=r
   ·rw[Bi tqO,Bi h2]
   ·rw[Ar tqO,Ar h2]
 refine⟨λp ch u v h1 h2 h3 h4 h5 h6=>?_,λg ch u v h1 h2 h3 h4 h5 h6=>?_⟩
 ·rw[at_] at h5 h6;rw[Ar h2] at h5;by_cases hp:p=r
  ·rw[Bi hp] at h5;cases h5;by_cases hc:ch=m
   ·rw[Bi hc] at h6;cases h6;exact ho.asym _ _ hn
   ·rw[Ar hc,Ar tqO] at h6;exact hmax ch v tqO h4 h6
  ·rw[Ar hp] at h5;by_cases hc:ch=r
   ·rw[Ar tqO,Bi hc] at h6;cases h6;exact hg p m u y h1 tqO hm hmh h5 hy
   ·rw[Ar tqO,Ar hc] at h6;exact h p ch u v h1 hp h3 h4 h5 h6
 ·rw[at_] at h5 h6;obtain rfl:g=r:=by omega
  rw[Ar tqO,Bi I] at h5;rw[Ar tqO,Ar tqO] at h6;cases h5;exact h m ch y v tqO tqO h3 h4 hy h6
theorem HpF.max {k:Nat} (ho:Ord lt) (h:HpF lt a 0 k l) (hl:a+k<=l.length) {x:α} (hx:l[a]? =some x):∀p y,p<k->l[a+p]? =some y->lt x y=false:=by
 intro p;induction p using Nat.strongRecOn with
 |_ p ih=>
  intro y hp hy;by_cases h0:p=0
  ·subst h0;rw[Eb,hx] at hy;cases hy;cases hb:lt x x
   ·rfl
   ·have h9:=ho.asym _ _ hb;rw[hb] at h9;cases h9
  ·have hq:(p- 1) / 2<p:=by omega
   have hz:l[a+(p- 1) / 2]? =some (l[a+(p- 1) / 2]'tqO):=A8 tqO;exact ho.tran y _ x (h ((p- 1) / 2) p _ y (Ax _) tqO hp hz hy) (ih _ hq _ tqO hz)
theorem Adg [Inhabited α] {k b:Nat} (ho:Ord lt) (hb:a+k<b) (hbl:b<=l.length) (hh:HpF lt a 0 (k+1) l) (hsr:Ju lt (a+(k+1)) b l)
  (hps:∀p q x y,a<=p->p<a+(k+1)->a+(k+1)<=q->q<b->l[p]? =some x->l[q]? =some y->lt y x=false):
  HpS lt a 0 k 0 (swp l a (a+k))/\∀m,Sw a (a+k) (swp l a (a+k)) m->Ju lt (a+k) b m/\∀p q x y,a<=p->p<a+k->a+k<=q->q<b->m[p]? =some x->m[q]? =some y->lt y x=false:=by
 obtain⟨x0,hx0⟩:∃x,l[a]? =some x:=⟨_,A8 tqO⟩;obtain⟨y0,hy0⟩:∃y,l[a+k]? =some y:=⟨_,A8 tqO⟩;have hmax:=hh.max ho tqO hx0;have at_:∀j,(swp l a (a+k))[j]? =if j=a+k then some x0 else if j=a then some y0 else l[j]?:=λj=>by rw[Li tqO tqO,hx0,hy0]
 have pre:∀p u,a<=p->p<a+(k+1)->l[p]? =some u->lt x0 u=false:=λp u h1 h2 h3=>hmax (p- a) u tqO (by rw[show a+(p- a)=p by omega];exact h3);refine⟨λp ch u v h1 h2 h3 h4 h5 h6=>?_,λm hm=>⟨λp q u v h1 h2 h3 h5 h6=>?_,λp q u v h1 h2 h3 h4 h5 h6=>?_⟩⟩
 ·rw[at_,Ar tqO,Ar tqO] at h5 h6;exact hh p ch u v h1 h3 tqO h5 h6
 ·rw[hm.out (.inr tqO),at_,Ar tqO,Ar tqO] at h6;rw[hm.out (.inr tqO),at_] at h5;by_cases hp:p=a+k
  ·rw[Bi hp] at h5;cases h5;exact hps a q x0 v (Ak _) tqO tqO h3 hx0 h6
  ·rw[Ar hp,Ar tqO] at h5;exact hsr p q u v tqO h2 h3 h5 h6
 ·rw[hm.out (.inr tqO),at_] at h6;refine hm.all (p:=λu=>lt v u=false) (λp u h1 h2 h5=>?_) p u h1 h2 h5;rw[at_,Ar tqO] at h5;by_cases hq:q=a+k
  ·rw[Bi hq] at h6;cases h6;split at h5
   ·cases h5;exact pre (a+k) _ tqO tqO hy0
   ·exact pre p u h1 tqO h5
  ·rw[Ar hq,Ar tqO] at h6;split at h5
   ·cases h5;exact hps (a+k) q _ v tqO tqO tqO h4 hy0 h6
   ·exact hps p q u v h1 tqO tqO h4 h5 h6
end
open Go.RowKit Go.Shelf
def Alh (lt:Wu->Wu->Bool) (a lo hi:Nat) (l:List Wu) (junk:List Value):Ku:=λr Ls F1=>∃m,Sw a (a+hi) l m/\HpF lt a lo hi m/\r=.inl (.t [])/\Ls=[.r (wuR m junk) 335]/\F1=[]
theorem LN (c:Int) (ho:Ord (ltW c)) (l:List Wu) (junk:List Value) (cap lo hi a:Nat) (hl:l.length<=1000000) (hbl:a+hi<=l.length) (hlo:lo<=1000000) (hh:HpS (ltW c) a lo hi lo l):Cx prog 354 [.o (.s 0 0 l.length cap),.o (.v (.int .i64 lo)),.o (.v (.int .i64 hi)),.o (.v (.int .i64 a)),.o (.v (He c))] [.r (wuR l junk) 335] [] (Alh (ltW c) a lo hi l junk):=by
 unfold He;refine tqx func354 ntmps354 ?_;intro ρ w0 A0;refine Br (γ:=Nat×List Wu) (λg=>lo<=g.1/\g.1<=1000000/\Sw a (a+hi) l g.2/\HpS (ltW c) a lo hi g.1 g.2/\HpG (ltW c) a lo hi g.1 g.2) (λg=>[(10,.o (.v (.int .i64 g.1)))]) (λg=>[(0,D9 (wuR g.2 junk) 335)]) (λ_=>[]) (λg=>2000000- g.1) (lo,l) ⟨Ak _,hlo,.refl _,hh,.top⟩ Ac ?_;rintro ⟨r,q⟩ ⟨hr,hr1,hsw,hs,hg⟩;dsimp only at hr hr1 hsw hs hg⊢;have hql:=hsw.len;refine Af (z:=((2*r:Nat):Int)) ?_;refine Af (z:=((2*r+1:Nat):Int)) ?_;refine Ai (λh1=>?_) λh1=>?_
 ·exact Dg [0] (.t []) [.r (wuR q junk) 335] [] ⟨I,trivial⟩ ⟨q,hsw,hs.leaf tqO,I,I,I⟩
 obtain⟨x,hx⟩:=A9 (xs:=q) (k:=a+r);obtain⟨y,hy⟩:=A9 (xs:=q) (k:=a+(2*r+1));refine Ao [19] (tqs 0 21<| .op 21 .z) [0] [] [] [] λ_=>?_;refine⟨_,Cb (z:=((2*r+2:Nat):Int)),?_⟩;refine Ai (λh2=>?_) λh2=>?_;rotate_left
 ·have hm1:∀o z,(o=2*r+1\/o=2*r+2)->o<hi->q[a+o]? =some z->ltW c y z=false:=λo z h3 h4 h5=>by
   obtain rfl:o=2*r+1:=by omega
   rw[hy] at h5;cases h5;exact ho.irr _
  refine Ao [13] (tqs 0 15<| .op 15 .z) [0] [] [] [] λ_=>?_;refine⟨_,Cb (z:=((a+r:Nat):Int)),?_⟩;refine⟨_,Ay (i:=a+r),?_⟩;refine⟨_,Do hx,?_⟩;refine⟨_,Cb (z:=((a+(2*r+1):Nat):Int)),?_⟩;refine⟨_,Ay (i:=a+(2*r+1)),?_⟩;refine⟨_,Do hy,?_⟩;refine tqc I5 (λ_=>Hx c x y) ?_;refine tqQ<|A7 (λh5=>?_) λh5=>?_
  ·have hf:ltW c x y=false:=by unfold ltW;simpa using h5
   exact Dg [0] (.t []) [.r (wuR q junk) 335] [] ⟨I,trivial⟩ ⟨q,hsw,hs.stop ho hx hm1 hf,I,I,I⟩
  have ht:ltW c x y=true:=by unfold ltW;simpa using h5
  refine Ao [21,23] (tqs 0 23<| .op 23 .z) [0] [(21,0),(23,0)] [] [] λ_=>?_;refine⟨_,Cb (z:=((a+r:Nat):Int)),?_⟩;refine⟨_,Cb (z:=((a+(2*r+1):Nat):Int)),?_⟩;refine⟨_,Cb (z:=((a+(2*r+1):Nat):Int)),?_⟩;refine⟨_,Ay (i:=a+(2*r+1)),?_⟩;refine⟨_,Do hy,?_⟩;refine⟨_,Cb (z:=((a+r:Nat):Int)),?_⟩;refine⟨_,Ay (i:=a+r),?_⟩;refine⟨_,Do hx,?_⟩;refine⟨_,Ay (i:=a+r),?_⟩;refine E8 hx ?_;refine tqQ<|⟨_,Ay (i:=a+(2*r+1)),?_⟩;refine E8 (Lh hx hy) ?_;refine tqQ ?_;rw[J8 hx hy];obtain⟨k1,k2⟩:=hs.step ho hg tqO (.inl I) tqO hr hx hy hm1 ht;exact⟨((2*r+1),swp q (a+r) (a+(2*r+1))),⟨tqP,tqP,.step hsw tqO tqO tqO tqO tqO,k1,k2⟩,tqP,Ac⟩
 obtain⟨z,hz⟩:=A9 (xs:=q) (k:=a+(2*r+2));refine⟨_,Cb (z:=((a+(2*r+1):Nat):Int)),?_⟩;refine⟨_,Ay (i:=a+(2*r+1)),?_⟩;refine⟨_,Do hy,?_⟩;refine⟨_,Cb (z:=((a+(2*r+1):Nat):Int)),?_⟩;refine⟨_,Cb (z:=((a+(2*r+2):Nat):Int)),?_⟩;refine⟨_,Ay (i:=a+(2*r+2)),?_⟩;refine⟨_,Do hz,?_⟩;refine tqc I5 (λ_=>Hx c y z) ?_;refine tqQ<|Ai (λh4=>?_) λh4=>?_
 ·have hyz:ltW c y z=true:=by unfold ltW;exact D4 h4
  have hm2:∀o u,(o=2*r+1\/o=2*r+2)->o<hi->q[a+o]? =some u->ltW c z u=false:=λo u h5 h6 h7=>by
   rcases h5 with rfl|rfl
   ·rw[hy] at h7;cases h7;exact ho.asym _ _ hyz
   ·rw[hz] at h7;cases h7;exact ho.irr _
  refine Af (z:=((2*r+2:Nat):Int)) ?_;refine Ao [13] (tqs 0 15<| .op 15 .z) [0] [] [] [] λ_=>?_;refine⟨_,Cb (z:=((a+r:Nat):Int)),?_⟩;refine⟨_,Ay (i:=a+r),?_⟩;refine⟨_,Do hx,?_⟩;refine⟨_,Cb (z:=((a+(2*r+2):Nat):Int)),?_⟩;refine⟨_,Ay (i:=a+(2*r+2)),?_⟩;refine⟨_,Do hz,?_⟩;refine tqc I5 (λ_=>Hx c x z) ?_;refine tqQ<|A7 (λh5=>?_) λh5=>?_
  ·have hf:ltW c x z=false:=by unfold ltW;simpa using h5
   exact Dg [0] (.t []) [.r (wuR q junk) 335] [] ⟨I,trivial⟩ ⟨q,hsw,hs.stop ho hx hm2 hf,I,I,I⟩
  have ht:ltW c x z=true:=by unfold ltW;simpa using h5
  refine Ao [21,23] (tqs 0 23<| .op 23 .z) [0] [(21,0),(23,0)] [] [] λ_=>?_;refine⟨_,Cb (z:=((a+r:Nat):Int)),?_⟩;refine⟨_,Cb (z:=((a+(2*r+2):Nat):Int)),?_⟩;refine⟨_,Cb (z:=((a+(2*r+2):Nat):Int)),?_⟩;refine⟨_,Ay (i:=a+(2*r+2)),?_⟩;refine⟨_,Do hz,?_⟩;refine⟨_,Cb (z:=((a+r:Nat):Int)),?_⟩;refine⟨_,Ay (i:=a+r),?_⟩;refine⟨_,Do hx,?_⟩;refine⟨_,Ay (i:=a+r),?_⟩;refine E8 hx ?_;refine tqQ<|⟨_,Ay (i:=a+(2*r+2)),?_⟩;refine E8 (Lh hx hz) ?_;refine tqQ ?_;rw[J8 hx hz];obtain⟨k1,k2⟩:=hs.step ho hg tqO (.inr I) tqO hr hx hz hm2 ht;exact⟨((2*r+2),swp q (a+r) (a+(2*r+2))),⟨tqP,tqP,.step hsw tqO tqO tqO tqO tqO,k1,k2⟩,tqP,Ac⟩
 ·have hyz:ltW c y z=false:=by unfold ltW;exact Gg h4
  have hm3:∀o u,(o=2*r+1\/o=2*r+2)->o<hi->q[a+o]? =some u->ltW c y u=false:=λo u h5 h6 h7=>by
   rcases h5 with rfl|rfl
   ·rw[hy] at h7;cases h7;exact ho.irr _
   ·rw[hz] at h7;cases h7;exact hyz
  refine Ao [13] (tqs 0 15<| .op 15 .z) [0] [] [] [] λ_=>?_;refine⟨_,Cb (z:=((a+r:Nat):Int)),?_⟩;refine⟨_,Ay (i:=a+r),?_⟩;refine⟨_,Do hx,?_⟩;refine⟨_,Cb (z:=((a+(2*r+1):Nat):Int)),?_⟩;refine⟨_,Ay (i:=a+(2*r+1)),?_⟩;refine⟨_,Do hy,?_⟩;refine tqc I5 (λ_=>Hx c x y) ?_;refine tqQ<|A7 (λh5=>?_) λh5=>?_
  ·have hf:ltW c x y=false:=by unfold ltW;simpa using h5
   exact Dg [0] (.t []) [.r (wuR q junk) 335] [] ⟨I,trivial⟩ ⟨q,hsw,hs.stop ho hx hm3 hf,I,I,I⟩
  have ht:ltW c x y=true:=by unfold ltW;simpa using h5
  refine Ao [21,23] (tqs 0 23<| .op 23 .z) [0] [(21,0),(23,0)] [] [] λ_=>?_;refine⟨_,Cb (z:=((a+r:Nat):Int)),?_⟩;refine⟨_,Cb (z:=((a+(2*r+1):Nat):Int)),?_⟩;refine⟨_,Cb (z:=((a+(2*r+1):Nat):Int)),?_⟩;refine⟨_,Ay (i:=a+(2*r+1)),?_⟩;refine⟨_,Do hy,?_⟩;refine⟨_,Cb (z:=((a+r:Nat):Int)),?_⟩;refine⟨_,Ay (i:=a+r),?_⟩;refine⟨_,Do hx,?_⟩;refine⟨_,Ay (i:=a+r),?_⟩;refine E8 hx ?_;refine tqQ<|⟨_,Ay (i:=a+(2*r+1)),?_⟩;refine E8 (Lh hx hy) ?_;refine tqQ ?_;rw[J8 hx hy];obtain⟨k1,k2⟩:=hs.step ho hg tqO (.inl I) tqO hr hx hy hm3 ht;exact⟨((2*r+1),swp q (a+r) (a+(2*r+1))),⟨tqP,tqP,.step hsw tqO tqO tqO tqO tqO,k1,k2⟩,tqP,Ac⟩
theorem ZY (c:Int) (ho:Ord (ltW c)) (l:List Wu) (junk:List Value) (cap a b:Nat) (hl:l.length<=1000000) (hab:a<b) (hbl:b<=l.length):Cx prog 340 [.o (.s 0 0 l.length cap),.o (.v (.int .i64 a)),.o (.v (.int .i64 b)),.o (.v (He c))] [.r (wuR l junk) 335] [] (BS (ltW c) a b l junk):=by
 refine tqx func340 ntmps340 ?_;intro ρ w0 A0;obtain⟨n,hn⟩:∃n,n=b- a:=⟨_,I⟩;refine Af (z:=((n:Nat):Int)) ?_;refine Af (z:=((n- 1:Nat):Int)) ?_;have hd:=BJ (q:=(n- 1) / 2) (z:=1000000) tqO (Ak _);obtain⟨q,hq⟩:∃q,q=(n- 1) / 2:=⟨_,I⟩;have hq2:n<=2*q+2/\2*q<=n- 1:=by omega
 have hdv:(((n- 1:Nat):Int).tdiv (2:Int))=(q:Int):=by rw[hq];exact Yu (n- 1) 2
 rw[<-hq] at hd;refine B8 (L5 (r:=(q:Int)) tqD hd.1 hd.2 I I I (Fb some hdv)) ?_;refine Br (γ:=Int×List Wu) (λg=> -1<=g.1/\g.1<=q/\Sw a b l g.2/\HpF (ltW c) a (g.1+1).toNat n g.2) (λg=>[(11,.o (.v (.int .i64 g.1)))]) (λg=>[(0,D9 (wuR g.2 junk) 335)]) (λ_=>[]) (λg=>(g.1+1).toNat) ((q:Int),l) ⟨tqP,Int.le_refl _,.refl _,λp ch x y h1 h2 h3=>by dsimp only at h1;omega⟩ Ac ?_;rintro ⟨z,m⟩ ⟨hz1,hz2,hsw,hp⟩;dsimp only at hz1 hz2 hsw hp⊢;have hml:=hsw.len;refine Ai (λh1=>?_) λh1=>?_
 ·obtain⟨k,rfl⟩:∃k:Nat,z=k:=⟨z.toNat,tqO⟩;rw[show ((k:Int)+1).toNat=k+1 by omega] at hp;have hX:=LN c ho m junk cap k n a tqO tqO tqO hp.skip;rw[hml] at hX;refine Cf (mu:=[.r (wuR m junk) 335]) [0] I7 ⟨I,trivial⟩ hX ?_;rintro r Ls F1 ⟨m2,k1,k2,rfl,rfl,rfl⟩;refine Af (z:=((k:Int) - 1)) ?_;exact⟨((k:Int) - 1,m2),⟨tqP,tqP,hsw.trans (k1.wide (Ak _) tqO tqO),by dsimp only;rw[show ((k:Int) - 1+1).toNat=k by omega];exact k2⟩,tqP,Ac⟩
 obtain rfl:z= -1:=by omega
 replace hp:HpF (ltW c) a 0 n m:=hp;refine Af (z:=((n- 1:Nat):Int)) ?_;refine Br (γ:=Int×List Wu) (λg=> -1<=g.1/\g.1<=((n- 1:Nat):Int)/\Sw a b l g.2/\HpF (ltW c) a 0 (g.1+1).toNat g.2/\Ju (ltW c) (a+(g.1+1).toNat) b g.2/\∀p q x y,a<=p->p<a+(g.1+1).toNat->a+(g.1+1).toNat<=q->q<b->g.2[p]? =some x->g.2[q]? =some y->ltW c y x=false) (λg=>[(12,.o (.v (.int .i64 g.1)))]) (λg=>[(0,D9 (wuR g.2 junk) 335)]) (λ_=>[]) (λg=>(g.1+1).toNat) (((n- 1:Nat):Int),m) ?_ Ac ?_
 ·dsimp only;have e:(((n- 1:Nat):Int)+1).toNat=n:=by omega
  rw[e];exact⟨tqO,Int.le_refl _,hsw,hp,.none tqO,λp q x y h1 h2 h3 h4=>by omega⟩
 clear hp hsw hml hz1 hz2 h1;rintro ⟨z,m⟩ ⟨hz1,hz2,hsw,hp,hsr,hps⟩;dsimp only at hz1 hz2 hsw hp hsr hps⊢;have hml:=hsw.len;refine Ai (λh1=>?_) λh1=>?_;rotate_left
 ·obtain rfl:z= -1:=by omega
  exact Dg [0] (.t []) [.r (wuR m junk) 335] [] ⟨I,trivial⟩ ⟨m,hsw,hsr,I,I,I⟩
 obtain⟨k,rfl⟩:∃k:Nat,z=k:=⟨z.toNat,tqO⟩;rw[show ((k:Int)+1).toNat=k+1 by omega] at hp hsr hps;obtain⟨k3,k4⟩:=Adg ho (b:=b) tqO tqO hp hsr hps;obtain⟨x,hx⟩:=A9 (xs:=m) (k:=a);obtain⟨y,hy⟩:=A9 (xs:=m) (k:=a+k);refine Ao [17,19] (tqs 0 19<| .op 19 .z) [0] [(17,0),(19,0)] [] [] λ_=>?_;refine⟨_,Cb (z:=((a+k:Nat):Int)),?_⟩;refine⟨_,Cb (z:=((a+k:Nat):Int)),?_⟩;refine⟨_,Ay (i:=a+k),?_⟩;refine⟨_,Do hy,?_⟩;refine⟨_,Ay (i:=a),?_⟩;refine⟨_,Do hx,?_⟩;refine⟨_,Ay (i:=a),?_⟩;refine E8 hx ?_;refine tqQ<|⟨_,Ay (i:=a+k),?_⟩;refine E8 (Lh hx hy) ?_;refine tqQ ?_;rw[J8 hx hy];have hX:=LN c ho (swp m a (a+k)) junk cap 0 k a (by rw[BT];omega) (by rw[BT];omega) tqO k3;rw[BT,hml] at hX;refine Cf (mu:=[.r (wuR (swp m a (a+k)) junk) 335]) [0] I7 ⟨I,trivial⟩ hX ?_;rintro r Ls F1 ⟨m2,k1,k2,rfl,rfl,rfl⟩;obtain⟨k5,k6⟩:=k4 m2 k1;refine Af (z:=((k:Int) - 1)) ?_;refine⟨((k:Int) - 1,m2),?_,tqP,Ac⟩;dsimp only;rw[show ((k:Int) - 1+1).toNat=k by omega];exact⟨tqO,tqO,(Sw.step hsw (Ak _) tqO tqO tqO tqO).trans (k1.wide (Ak _) tqO (by rw[BT];omega)),k2,k5,k6⟩
def ltE (c:Int) (u x:Wu):Bool:= !ltW c x u
def Am0 (lt:Wu->Wu->Bool) (a b pv:Nat) (l:List Wu) (junk:List Value):Ku:=λr Ls F1=>∃m i,Sw a b l m/\a<i/\i<=b/\(∃x,l[pv]? =some x/\m[a]? =some x/\(∀k u,a<=k->k<i->m[k]? =some u->lt x u=false)/\∀k u,i<=k->k<b->m[k]? =some u->lt x u=true)/\r=.inl (.o (.v (.int .i64 ((i:Nat):Int))))/\Ls=[.r (wuR m junk) 335]/\F1=[]
theorem Aho (c:Int) (l:List Wu) (junk:List Value) (cap a b pv:Nat) (hl:l.length<=1000000) (hab:a+1<b) (hbl:b<=l.length) (hpa:a<=pv) (hpb:pv<b):Cx prog 345 [.o (.s 0 0 l.length cap),.o (.v (.int .i64 a)),.o (.v (.int .i64 b)),.o (.v (.int .i64 pv)),.o (.v (He c))] [.r (wuR l junk) 335] [] (Am0 (ltW c) a b pv l junk):=by
 unfold He;refine tqx func345 ntmps345 ?_;intro ρ w0 A0;obtain⟨x0,hx0⟩:=A9 (xs:=l) (k:=a);obtain⟨x,hx⟩:=A9 (xs:=l) (k:=pv);refine Ao [13,15] (tqs 0 15<| .op 15 .z) [0] [(13,0),(15,0)] [] [] λ_=>?_;refine⟨_,Ay (i:=pv),?_⟩;refine⟨_,Do hx,?_⟩;refine⟨_,Ay (i:=a),?_⟩;refine⟨_,Do hx0,?_⟩;refine⟨_,Ay (i:=a),?_⟩;refine E8 hx0 ?_;refine tqQ<|⟨_,Ay (i:=pv),?_⟩;refine E8 (Lh hx0 hx) ?_;refine tqQ ?_;rw[J8 hx0 hx];have hsw:Sw a b l (swp l a pv):=.one (Ak _) tqO hpa hpb hbl;have hma:(swp l a pv)[a]? =some x:=by
  rw[Li tqO tqO];by_cases e:a=pv
  ·rw[Bi e,e];exact hx
  ·rw[Ar e,Bi I];exact hx
 refine Af (z:=((a+1:Nat):Int)) ?_;refine Af (z:=((b- 1:Nat):Int)) ?_;refine Br (γ:=Nat×Nat×List Wu) (λg=>a+1<=g.1/\a<=g.2.1/\g.1<=g.2.1+1/\g.2.1<b/\Sw a b l g.2.2/\PtR (ltE c) a b g.1 g.2.1 x g.2.2) (λg=>[(11,.o (.v (.int .i64 g.1))),(12,.o (.v (.int .i64 g.2.1)))]) (λg=>[(0,D9 (wuR g.2.2 junk) 335)]) (λ_=>[]) (λg=>b- g.1) (a+1,b- 1,swp l a pv) ⟨Ak _,tqP,tqP,tqP,hsw,.begin hma⟩ Ac ?_;clear hsw hma;rintro ⟨i1,j,m⟩ ⟨hi0,hj0,hij,hjb,hsw,hq⟩;dsimp only at hi0 hj0 hij hjb hsw hq⊢;have hml:=hsw.len;refine O4 (γ:=Nat) 2 (λi=>i1<=i/\i<=j+1/\PtR (ltE c) a b i j x m/\(i<=j->∀u,m[i]? =some u->ltE c u x=false)) (λi=>[(11,.o (.v (.int .i64 i)))]) (λ_=>[]) ?_ ?_
 ·refine Br (γ:=Nat) (λi=>i1<=i/\i<=j+1/\PtR (ltE c) a b i j x m) (λi=>[(11,.o (.v (.int .i64 i)))]) (λ_=>[]) (λ_=>[]) (λi=>b- i) i1 ⟨Ak _,tqO,hq⟩ Ac ?_;rintro i ⟨hi1,hi2,hpt⟩;refine Ao [13] (tqs 0 16<| .op 16 .z) [0] [] [] [] λ_=>?_;refine Ai (λh1=>?_) λh1=>?_;rotate_left
  ·exact⟨i,⟨hi1,hi2,hpt,λh=>by omega⟩,Ac⟩
  obtain⟨y,hy⟩:=A9 (xs:=m) (k:=i);refine⟨_,Ay (i:=a),?_⟩;refine⟨_,Do hpt.1,?_⟩;refine⟨_,Ay (i:=i),?_⟩;refine⟨_,Do hy,?_⟩;refine tqc I5 (λ_=>Hx c x y) ?_;refine tqQ<|A7 (λh2=>?_) λh2=>?_
  ·have ht:ltE c y x=true:=h2;refine Af (z:=((i+1:Nat):Int)) ?_;exact⟨i+1,⟨tqO,tqO,hpt.up hy ht⟩,tqP,Ac⟩
  ·have hf:ltE c y x=false:=h2;exact⟨i,⟨hi1,hi2,hpt,λh u hu=>by rw[hy] at hu;cases hu;exact hf⟩,Ac⟩
 rintro i ⟨hi1,hi2,hpt,hst⟩;refine O4 (γ:=Nat) 4 (λk=>a<=k/\k<=j/\i<=k+1/\PtR (ltE c) a b i k x m/\(i<=k->∀u,m[k]? =some u->ltE c u x=true)) (λk=>[(12,.o (.v (.int .i64 k)))]) (λ_=>[]) ?_ ?_
 ·refine Br (γ:=Nat) (λk=>a<=k/\k<=j/\i<=k+1/\PtR (ltE c) a b i k x m) (λk=>[(12,.o (.v (.int .i64 k)))]) (λ_=>[]) (λ_=>[]) (λk=>k) j ⟨tqO,Ak _,hi2,hpt⟩ Ac ?_;rintro k ⟨hk0,hk1,hk2,hpt⟩;refine Ao [13] (tqs 0 15<| .op 15 .z) [0] [] [] [] λ_=>?_;refine Ai (λh1=>?_) λh1=>?_;rotate_left
  ·exact⟨k,⟨hk0,hk1,hk2,hpt,λh=>by omega⟩,Ac⟩
  obtain⟨y,hy⟩:=A9 (xs:=m) (k:=k);refine⟨_,Ay (i:=a),?_⟩;refine⟨_,Do hpt.1,?_⟩;refine⟨_,Ay (i:=k),?_⟩;refine⟨_,Do hy,?_⟩;refine tqc I5 (λ_=>Hx c x y) ?_;refine tqQ<|Ai (λh2=>?_) λh2=>?_
  ·have hf:ltE c y x=false:=by unfold ltE ltW;rw[D4 h2];rfl
   refine Af (z:=((k- 1:Nat):Int)) ?_;exact⟨k- 1,⟨tqO,tqO,tqO,hpt.down tqO hy hf⟩,tqP,Ac⟩
  ·have ht:ltE c y x=true:=by unfold ltE ltW;rw[Gg h2];rfl
   exact⟨k,⟨hk0,hk1,hk2,hpt,λh u hu=>by rw[hy] at hu;cases hu;exact ht⟩,Ac⟩
 rintro k ⟨hk0,hk1,hk2,hpt,hsk⟩;refine Ai (λh3=>?_) λh3=>?_
 ·obtain rfl:i=k+1:=by omega
  refine Dg [0] (.o (.v (.int .i64 (k+1:Nat)))) [.r (wuR m junk) 335] [] ⟨I,trivial⟩ ⟨m,k+1,hsw,tqO,tqO,⟨x,hx,hpt.1,λq u q1 q2 q3=>?_,λq u q1 q2 q3=>by simpa [ltE] using hpt.2.2 q u tqO q2 q3⟩,I,I,I⟩;by_cases hqa:q=a
  ·subst hqa;rw[hpt.1] at q3;cases q3;have:=Amy c;cases hxx:ltW c x x
   ·rfl
   ·rw[this.asym _ _ hxx] at hxx;cases hxx
  ·simpa [ltE] using hpt.2.1 q u tqO q2 q3
 obtain⟨yi,hyi⟩:=A9 (xs:=m) (k:=i);obtain⟨yk,hyk⟩:=A9 (xs:=m) (k:=k);have hne:i≠k:=λe=>by
  subst e;have e1:=hst tqO yi hyi;rw[hsk tqO yi hyi] at e1;cases e1
 refine Ao [13,15] (tqs 0 15<| .op 15 .z) [0] [(13,0),(15,0)] [] [] λ_=>?_;refine⟨_,Ay (i:=k),?_⟩;refine⟨_,Do hyk,?_⟩;refine⟨_,Ay (i:=i),?_⟩;refine⟨_,Do hyi,?_⟩;refine⟨_,Ay (i:=i),?_⟩;refine E8 hyi ?_;refine tqQ<|⟨_,Ay (i:=k),?_⟩;refine E8 (Lh hyi hyk) ?_;refine tqQ ?_;rw[J8 hyi hyk];refine Af (z:=((i+1:Nat):Int)) ?_;refine Af (z:=((k- 1:Nat):Int)) ?_;have hp2:=hpt.swap tqO tqO tqO hyi hyk (hst tqO yi hyi) (hsk tqO yk hyk);have hsw2:Sw a b l (swp m i k):=.step hsw tqO tqO tqO tqO tqO;exact⟨(i+1,k- 1,swp m i k),⟨tqP,tqP,tqP,tqP,hsw2,hp2⟩,tqP,Ac⟩
theorem Aof {P:Prop} {α β γ δ:Type} (C:α->β->γ->δ->Prop) {G:α->β->γ->δ->Prop} (h1:(∀a b c d,C a b c d->G a b c d)->P) (h2:∀a b c d,C a b c d->G a b c d):P:=h1 h2
theorem Aog {P:Prop} {α β γ δ ε:Type} (C:α->β->γ->δ->ε->Prop) {G:α->β->γ->δ->ε->Prop} (h1:(∀a b c d e,C a b c d e->G a b c d e)->P) (h2:∀a b c d e,C a b c d e->G a b c d e):P:=h1 h2
section
variable {X:Fx} {o:Oper} {T T':TE} {L L':LE} {n n':Nat} {F F':List Fact} {D D':DF} {K:KK} {k:KS} {c:Code}
theorem Ad2 (hw:Wk X T L n F D ⟨T',L',n',F',D'⟩) (h:OJs X o T' L' n' F' D' k K):OJs X o T L n F D k K:=O6 hw h
theorem Y7 (hw:Wk X T L n F D ⟨T',L',n',F',D'⟩) (h:CJs X c T' L' n' F' D' K):CJs X c T L n F D K:=λQ hQ a w hr=>h Q hQ a w (hw a w hr)
end
def PdI (c:Int) (a b:Nat) (l:List Wu) (e d:Nat) (m:List Wu):Prop:=Sw a b l m/\Ue (ltW c) a b e d m/\U6 (ltW c) e d m
theorem PdI.move {c:Int} {a b e d:Nat} {l m n:List Wu} (h:PdI c a b l e d m) (hs:Sw e d m n) (ha:a<=e:=by omega) (hb:d<=b:=by omega) (hl:b<=l.length:=by omega):PdI c a b l e d n:=⟨h.1.trans (hs.wide ha hb (by rw[h.1.len];exact hl)),h.2.1.move hs ha hb,h.2.2.move hs⟩
theorem Aob (c:Int) (ho:Ord (ltW c)):∀(n:Nat) (l:List Wu) (junk:List Value) (cap a b lim:Nat),b- a<=n->l.length<=300->a<=b->b<=l.length->lim<=1000->U6 (ltW c) a b l->Cx prog 326 [.o (.s 0 0 l.length cap),.o (.v (.int .i64 a)),.o (.v (.int .i64 b)),.o (.v (.int .i64 lim)),.o (.v (He c))] [.r (wuR l junk) 335] [] (BS (ltW c) a b l junk):=by
 intro n;induction n using Nat.strongRecOn with
 |ind n ih0=>
 intro l junk cap a b lim hn hl hab hbl hlim hp;have ih:∀(l:List Wu) (junk:List Value) (cap a' b' lim:Nat),b'- a'<b- a->l.length<=300->a'<=b'->b'<=l.length->lim<=1000->U6 (ltW c) a' b' l->Cx prog 326 [.o (.s 0 0 l.length cap),.o (.v (.int .i64 a')),.o (.v (.int .i64 b')),.o (.v (.int .i64 lim)),.o (.v (He c))] [.r (wuR l junk) 335] [] (BS (ltW c) a' b' l junk):=λl junk cap a' b' lim h=>ih0 (b'- a') tqO l junk cap a' b' lim (Ak _);clear ih0 hn;unfold He;refine tqx func326 ntmps326 ?_;intro ρ w0 A0;refine Br (γ:=Nat×Nat×Nat×Bool×Bool×List Wu) (λg=>a<=g.1/\g.1<=g.2.1/\g.2.1<=b/\g.2.2.1<=1000/\PdI c a b l g.1 g.2.1 g.2.2.2.2.2) (λg=>[(1,.o (.v (.int .i64 g.1))),(2,.o (.v (.int .i64 g.2.1))),(3,.o (.v (.int .i64 g.2.2.1))),(10,.o (.v (.bool g.2.2.2.1))),(11,.o (.v (.bool g.2.2.2.2.1)))]) (λg=>[(0,D9 (wuR g.2.2.2.2.2 junk) 335)]) (λ_=>[]) (λg=>g.2.1- g.1) (a,b,lim,true,true,l) ⟨Ak _,hab,Ak _,hlim,.refl _,.none,hp⟩ Ac ?_;clear hlim;rintro ⟨c',d,lim,wb,wp,m⟩ ⟨hc,hcd,hdb,hlim,hI⟩;dsimp only at hc hcd hdb hlim hI⊢;have hml:=hI.1.len;refine Af (z:=((d- c':Nat):Int)) ?_;refine Ai (λh1=>?_) λh1=>?_
 ·have hX:=Adl c ho m junk cap c' d tqO hcd tqO;rw[hml] at hX;unfold He at hX;refine Cf (mu:=[.r (wuR m junk) 335]) [0] I7 ⟨I,trivial⟩ hX ?_;rintro r Ls F1 ⟨m2,k1,k2,rfl,rfl,rfl⟩;exact Dg [0] (.t []) [.r (wuR m2 junk) 335] [] ⟨I,trivial⟩ ⟨m2,(hI.move k1).1,(hI.move k1).2.1.done k2,I,I,I⟩
 have hcd2:c'+12<d:=by omega
 have hd:=BJ (q:=(d- c') / 8) (z:=1000000) tqO (Ak _);refine Ai (λh2=>?_) λh2=>?_
 ·have hX:=ZY c ho m junk cap c' d tqO tqO tqO;rw[hml] at hX;unfold He at hX;refine Cf (mu:=[.r (wuR m junk) 335]) [0] I7 ⟨I,trivial⟩ hX ?_;rintro r Ls F1 ⟨m2,k1,k2,rfl,rfl,rfl⟩;exact Dg [0] (.t []) [.r (wuR m2 junk) 335] [] ⟨I,trivial⟩ ⟨m2,(hI.move k1).1,(hI.move k1).2.1.done k2,I,I,I⟩
 have hlz:lim≠0:=by omega
 clear h1 h2;apply Aog (C:=λ(lim:Nat) (m:List Wu) (pv:Nat) (_ _:Bool)=>lim<=1000/\c'<=pv/\pv<d/\PdI c a b l c' d m)
 ·intro tail1;apply Aof (C:=λ(lim:Nat) (m:List Wu) (wb wp:Bool)=>lim<=1000/\PdI c a b l c' d m)
  ·intro tail0;refine A7 (λhw=>?_) λhw=>?_
   ·have hX:=Aga c m junk cap c' d tqO hcd tqO;rw[hml] at hX;unfold He at hX;refine Cf (mu:=[.r (wuR m junk) 335]) [0] I7 ⟨I,trivial⟩ hX ?_;rintro r Ls F1 ⟨m2,k1,rfl,rfl,rfl⟩;refine Af (z:=((lim- 1:Nat):Int)) ?_;obtain⟨li,hli⟩:∃x,x=lim- 1:=⟨_,I⟩;obtain⟨wc,hwc⟩:∃x,x=wb:=⟨_,I⟩;obtain⟨wq,hwq⟩:∃x,x=wp:=⟨_,I⟩;exact Ad2 (T':=[(48,.o (.s 0 0 l.length cap)),(49,.o (.v (.int .i64 (c':Int)))),(50,.o (.v (.int .i64 (d:Int)))),(51,.o (.v (.func (.func 295) #[.int .i64 c] #[]))),(1,.o (.v (.int .i64 (c':Int)))),(2,.o (.v (.int .i64 (d:Int)))),(3,.o (.v (.int .i64 (li:Int)))),(10,.o (.v (.bool wc))),(11,.o (.v (.bool wq))),(12,.o (.v (.int .i64 ((d- c':Nat):Int)))),(0,.o (.s 0 0 l.length cap)),(4,.o (.v (.func (.func 295) #[.int .i64 c] #[])))]) (L':=[(0,D9 (wuR m2 junk) 335)]) (n':=1) (F':=[]) (D':=λ_=>[]) (by rw[hli,hwc,hwq];exact Ac) (tail0 li m2 wc wq ⟨tqO,hI.move k1⟩)
   ·exact Ad2 (T':=[(48,.o (.s 0 0 l.length cap)),(49,.o (.v (.int .i64 (c':Int)))),(50,.o (.v (.int .i64 (d:Int)))),(51,.o (.v (.func (.func 295) #[.int .i64 c] #[]))),(1,.o (.v (.int .i64 (c':Int)))),(2,.o (.v (.int .i64 (d:Int)))),(3,.o (.v (.int .i64 (lim:Int)))),(10,.o (.v (.bool wb))),(11,.o (.v (.bool wp))),(12,.o (.v (.int .i64 ((d- c':Nat):Int)))),(0,.o (.s 0 0 l.length cap)),(4,.o (.v (.func (.func 295) #[.int .i64 c] #[])))]) (L':=[(0,D9 (wuR m junk) 335)]) (n':=1) (F':=[]) (D':=λ_=>[]) Ac (tail0 lim m wb wp ⟨hlim,hI⟩)
  ·rintro lim m wb wp ⟨hlim,hI⟩;have hml:=hI.1.len;obtain⟨wc,hwc⟩:∃x,x=wb:=⟨_,I⟩;obtain⟨wq,hwq⟩:∃x,x=wp:=⟨_,I⟩;have hX:=Ak7 c m junk cap c' d tqO tqO tqO;rw[hml] at hX;unfold He at hX;refine Cf (mu:=[.r (wuR m junk) 335]) [0] I7 ⟨I,trivial⟩ hX ?_;rintro r Ls F1 ⟨pv,hh,k1,k2,rfl,rfl,rfl⟩;refine Ai (λh1=>?_) λh1=>?_
   ·have hX:=Abm c m junk cap c' d tqO tqO tqO;rw[hml] at hX;unfold He at hX;refine Cf (mu:=[.r (wuR m junk) 335]) [0] I7 ⟨I,trivial⟩ hX ?_;rintro r Ls F1 ⟨m2,k3,rfl,rfl,rfl⟩;refine Af (z:=((d- 1:Nat):Int)) ?_;refine Af (z:=((pv- c':Nat):Int)) ?_;refine Af (z:=((d- 1- (pv- c'):Nat):Int)) ?_;have hI2:=hI.move k3;obtain⟨pw,hpw⟩:∃pw,pw=d- 1- (pv- c'):=⟨_,I⟩;rw[<-hpw];have hpw1:c'<=pw:=by omega
    have hpw2:pw<d:=by omega
    cases wb
    ·exact Y7 (T':=[(13,.o (.v (.int .i64 ((pw:Nat):Int)))),(10,.o (.v (.bool wc))),(11,.o (.v (.bool wq))),(12,.o (.v (.int .i64 ((d- c':Nat):Int)))),(1,.o (.v (.int .i64 (c':Int)))),(2,.o (.v (.int .i64 (d:Int)))),(3,.o (.v (.int .i64 (lim:Int)))),(0,.o (.s 0 0 l.length cap)),(4,.o (.v (.func (.func 295) #[.int .i64 c] #[])))]) (L':=[(0,D9 (wuR m2 junk) 335)]) (n':=1) (F':=[]) (D':=λ_=>[]) (by rw[hwc,hwq];exact Ac) (tail1 lim m2 pw wc wq ⟨hlim,hpw1,hpw2,hI2⟩)
    cases wp
    ·exact Y7 (T':=[(13,.o (.v (.int .i64 ((pw:Nat):Int)))),(10,.o (.v (.bool wc))),(11,.o (.v (.bool wq))),(12,.o (.v (.int .i64 ((d- c':Nat):Int)))),(1,.o (.v (.int .i64 (c':Int)))),(2,.o (.v (.int .i64 (d:Int)))),(3,.o (.v (.int .i64 (lim:Int)))),(0,.o (.s 0 0 l.length cap)),(4,.o (.v (.func (.func 295) #[.int .i64 c] #[])))]) (L':=[(0,D9 (wuR m2 junk) 335)]) (n':=1) (F':=[]) (D':=λ_=>[]) (by rw[hwc,hwq];exact Ac) (tail1 lim m2 pw wc wq ⟨hlim,hpw1,hpw2,hI2⟩)
    ·have hLn:=(hI2).1.len;have hX:=Aet c ho m2 junk cap c' d tqO tqO tqO (hI2).2.2;rw[show (m2).length=l.length by have:=(hI2).1.len;omega] at hX;unfold He at hX;refine Cf (mu:=[.r (wuR m2 junk) 335]) [0] I7 ⟨I,trivial⟩ hX ?_;rintro r Ls F1 ⟨m3,fl,k1,k2,rfl,rfl,rfl⟩;cases fl
     ·exact Y7 (T':=[(13,.o (.v (.int .i64 ((pw:Nat):Int)))),(10,.o (.v (.bool wc))),(11,.o (.v (.bool wq))),(12,.o (.v (.int .i64 ((d- c':Nat):Int)))),(1,.o (.v (.int .i64 (c':Int)))),(2,.o (.v (.int .i64 (d:Int)))),(3,.o (.v (.int .i64 (lim:Int)))),(0,.o (.s 0 0 l.length cap)),(4,.o (.v (.func (.func 295) #[.int .i64 c] #[])))]) (L':=[(0,D9 (wuR m3 junk) 335)]) (n':=1) (F':=[]) (D':=λ_=>[]) (by rw[hwc,hwq];exact Ac) (tail1 lim m3 pw wc wq ⟨hlim,tqO,tqO,(hI2).move k1⟩)
     ·exact Dg [0] (.t []) [.r (wuR m3 junk) 335] [] ⟨I,trivial⟩ ⟨m3,((hI2).move k1).1,((hI2).move k1).2.1.done (k2 I),I,I,I⟩
   ·cases wb
    ·exact Y7 (T':=[(13,.o (.v (.int .i64 ((pv:Nat):Int)))),(10,.o (.v (.bool wc))),(11,.o (.v (.bool wq))),(12,.o (.v (.int .i64 ((d- c':Nat):Int)))),(1,.o (.v (.int .i64 (c':Int)))),(2,.o (.v (.int .i64 (d:Int)))),(3,.o (.v (.int .i64 (lim:Int)))),(0,.o (.s 0 0 l.length cap)),(4,.o (.v (.func (.func 295) #[.int .i64 c] #[])))]) (L':=[(0,D9 (wuR m junk) 335)]) (n':=1) (F':=[]) (D':=λ_=>[]) (by rw[hwc,hwq];exact Ac) (tail1 lim m pv wc wq ⟨hlim,k1,k2,hI⟩)
    cases wp
    ·exact Y7 (T':=[(13,.o (.v (.int .i64 ((pv:Nat):Int)))),(10,.o (.v (.bool wc))),(11,.o (.v (.bool wq))),(12,.o (.v (.int .i64 ((d- c':Nat):Int)))),(1,.o (.v (.int .i64 (c':Int)))),(2,.o (.v (.int .i64 (d:Int)))),(3,.o (.v (.int .i64 (lim:Int)))),(0,.o (.s 0 0 l.length cap)),(4,.o (.v (.func (.func 295) #[.int .i64 c] #[])))]) (L':=[(0,D9 (wuR m junk) 335)]) (n':=1) (F':=[]) (D':=λ_=>[]) (by rw[hwc,hwq];exact Ac) (tail1 lim m pv wc wq ⟨hlim,k1,k2,hI⟩)
    refine Ai (λh2=>?_) λh2=>?_
    ·have hLn:=(hI).1.len;have hX:=Aet c ho m junk cap c' d tqO tqO tqO (hI).2.2;rw[show (m).length=l.length by have:=(hI).1.len;omega] at hX;unfold He at hX;refine Cf (mu:=[.r (wuR m junk) 335]) [0] I7 ⟨I,trivial⟩ hX ?_;rintro r Ls F1 ⟨m3,fl,k1,k2,rfl,rfl,rfl⟩;cases fl
     ·exact Y7 (T':=[(13,.o (.v (.int .i64 ((pv:Nat):Int)))),(10,.o (.v (.bool wc))),(11,.o (.v (.bool wq))),(12,.o (.v (.int .i64 ((d- c':Nat):Int)))),(1,.o (.v (.int .i64 (c':Int)))),(2,.o (.v (.int .i64 (d:Int)))),(3,.o (.v (.int .i64 (lim:Int)))),(0,.o (.s 0 0 l.length cap)),(4,.o (.v (.func (.func 295) #[.int .i64 c] #[])))]) (L':=[(0,D9 (wuR m3 junk) 335)]) (n':=1) (F':=[]) (D':=λ_=>[]) (by rw[hwc,hwq];exact Ac) (tail1 lim m3 pv wc wq ⟨hlim,tqO,tqO,(hI).move k1⟩)
     ·exact Dg [0] (.t []) [.r (wuR m3 junk) 335] [] ⟨I,trivial⟩ ⟨m3,((hI).move k1).1,((hI).move k1).2.1.done (k2 I),I,I,I⟩
    ·exact Y7 (T':=[(13,.o (.v (.int .i64 ((pv:Nat):Int)))),(10,.o (.v (.bool wc))),(11,.o (.v (.bool wq))),(12,.o (.v (.int .i64 ((d- c':Nat):Int)))),(1,.o (.v (.int .i64 (c':Int)))),(2,.o (.v (.int .i64 (d:Int)))),(3,.o (.v (.int .i64 (lim:Int)))),(0,.o (.s 0 0 l.length cap)),(4,.o (.v (.func (.func 295) #[.int .i64 c] #[])))]) (L':=[(0,D9 (wuR m junk) 335)]) (n':=1) (F':=[]) (D':=λ_=>[]) (by rw[hwc,hwq];exact Ac) (tail1 lim m pv wc wq ⟨hlim,k1,k2,hI⟩)
 ·rintro lim m pv wb wp ⟨hlim,hpv1,hpv2,hI⟩;have hml:=hI.1.len;refine Ao [13] (tqs 0 16<| .op 16 .z) [0] [] [] [] λ_=>?_;refine Ai (λh1=>?_) λh1=>?_
  ·obtain⟨z,hz⟩:=A9 (xs:=m) (k:=c'- 1);obtain⟨v,hv⟩:=A9 (xs:=m) (k:=pv);refine⟨_,Cb (z:=((c'- 1:Nat):Int)),?_⟩;refine⟨_,Ay (i:=c'- 1),?_⟩;refine⟨_,Do hz,?_⟩;refine⟨_,Ay (i:=pv),?_⟩;refine⟨_,Do hv,?_⟩;refine tqc I5 (λ_=>Hx c z v) ?_;refine tqQ<|A7 (λh2=>?_) λh2=>?_
   ·have hzv:ltW c z v=false:=by unfold ltW;simpa using h2
    have hX:=Aho c m junk cap c' d pv tqO tqO tqO hpv1 hpv2;rw[hml] at hX;unfold He at hX;refine Cf (mu:=[.r (wuR m junk) 335]) [0] I7 ⟨I,trivial⟩ hX ?_;rintro r Ls F1 ⟨m2,i,k1,k2,k3,⟨x,k4,k5,k6,k7⟩,rfl,rfl,rfl⟩;rw[hv] at k4;cases k4;have hI2:=hI.move k1;have hx3:=hI2.2.1.low (e:=i) λp q x y p1 p2 p3 p4 p5 p6=>Ak5 ho (by rw[k1.out (.inl tqO)];exact hz) tqO hI2.2.2 hzv k6 k7 p1 p2 p3 p4 p5 p6;exact⟨(i,d,lim,wb,wp,m2),⟨tqP,tqP,tqP,hlim,hI2.1,hx3,.of hp hI2.1 hx3 tqO tqO⟩,tqP,Ac⟩
   ·have hX:=HG c m junk cap c' d pv tqO tqO tqO tqO tqO;rw[show m.length=l.length by omega] at hX;unfold He at hX;refine Cf (mu:=[.r (wuR m junk) 335]) [0] I7 ⟨I,trivial⟩ hX ?_;rintro r Ls F1 ⟨m2,mid,fl,k1,k2,k3,k4,rfl,rfl,rfl⟩;have hI2:=hI.move k1;refine Af (z:=((mid- c':Nat):Int)) ?_;refine Af (z:=((d- mid:Nat):Int)) ?_;refine B8 (L5 (r:=((d- c') / 8:Nat)) tqD hd.1 hd.2 I I I (Fb some (Yu (d- c') 8))) ?_;refine Ai (λg1=>?_) λg1=>?_
    ·have hX:=ih m2 junk cap c' mid lim tqO (by have:=hI2.1.len;omega) tqO (by have:=hI2.1.len;omega) hlim (hI2.2.2.sub tqO);rw[show m2.length=l.length by have:=hI2.1.len;omega] at hX;unfold He at hX;refine Cf (mu:=[.r (wuR m2 junk) 335]) [0] I7 ⟨I,trivial⟩ hX ?_;rintro r Ls F1 ⟨m3,j1,j2,rfl,rfl,rfl⟩;refine Af (z:=((mid+1:Nat):Int)) ?_;have hl3:=(hI2.move (j1.wide (Ak _) tqO (by have:=hI2.1.len;omega)));have hx3:=hl3.2.1.low (e:=mid+1) λp q x y p1 p2 p3 p4 p5 p6=>k4.low ho j1 j2 p1 p2 p3 p4 p5 p6;exact⟨(mid+1,d,lim,decide ((((d- c') / 8:Nat):Int)<=((mid- c':Nat):Int)),fl,m3),⟨tqP,tqP,tqP,hlim,hl3.1,hx3,(by dsimp only;exact .of hp hl3.1 hx3 tqO tqO)⟩,tqP,Ac⟩
    ·refine Af (z:=((mid+1:Nat):Int)) ?_;have hX:=ih m2 junk cap (mid+1) d lim tqO (by have:=hI2.1.len;omega) tqO (by have:=hI2.1.len;omega) hlim k4.pre;rw[show m2.length=l.length by have:=hI2.1.len;omega] at hX;unfold He at hX;refine Cf (mu:=[.r (wuR m2 junk) 335]) [0] I7 ⟨I,trivial⟩ hX ?_;rintro r Ls F1 ⟨m3,j1,j2,rfl,rfl,rfl⟩;have hl3:=(hI2.move (j1.wide tqO (Ak _) (by have:=hI2.1.len;omega)));have hx3:=hl3.2.1.high (e:=mid) λp q x y p1 p2 p3 p4 p5 p6=>k4.high ho j1 j2 p1 p2 p3 p4 p5 p6;exact⟨(c',mid,lim,decide ((((d- c') / 8:Nat):Int)<=((d- mid:Nat):Int)),fl,m3),⟨tqP,tqP,tqP,hlim,hl3.1,hx3,(by dsimp only;exact .of hp hl3.1 hx3 tqO tqO)⟩,tqP,Ac⟩
  ·have hX:=HG c m junk cap c' d pv tqO tqO tqO tqO tqO;rw[show m.length=l.length by omega] at hX;unfold He at hX;refine Cf (mu:=[.r (wuR m junk) 335]) [0] I7 ⟨I,trivial⟩ hX ?_;rintro r Ls F1 ⟨m2,mid,fl,k1,k2,k3,k4,rfl,rfl,rfl⟩;have hI2:=hI.move k1;refine Af (z:=((mid- c':Nat):Int)) ?_;refine Af (z:=((d- mid:Nat):Int)) ?_;refine B8 (L5 (r:=((d- c') / 8:Nat)) tqD hd.1 hd.2 I I I (Fb some (Yu (d- c') 8))) ?_;refine Ai (λg1=>?_) λg1=>?_
   ·have hX:=ih m2 junk cap c' mid lim tqO (by have:=hI2.1.len;omega) tqO (by have:=hI2.1.len;omega) hlim (hI2.2.2.sub tqO);rw[show m2.length=l.length by have:=hI2.1.len;omega] at hX;unfold He at hX;refine Cf (mu:=[.r (wuR m2 junk) 335]) [0] I7 ⟨I,trivial⟩ hX ?_;rintro r Ls F1 ⟨m3,j1,j2,rfl,rfl,rfl⟩;refine Af (z:=((mid+1:Nat):Int)) ?_;have hl3:=(hI2.move (j1.wide (Ak _) tqO (by have:=hI2.1.len;omega)));have hx3:=hl3.2.1.low (e:=mid+1) λp q x y p1 p2 p3 p4 p5 p6=>k4.low ho j1 j2 p1 p2 p3 p4 p5 p6;exact⟨(mid+1,d,lim,decide ((((d- c') / 8:Nat):Int)<=((mid- c':Nat):Int)),fl,m3),⟨tqP,tqP,tqP,hlim,hl3.1,hx3,(by dsimp only;exact .of hp hl3.1 hx3 tqO tqO)⟩,tqP,Ac⟩
   ·refine Af (z:=((mid+1:Nat):Int)) ?_;have hX:=ih m2 junk cap (mid+1) d lim tqO (by have:=hI2.1.len;omega) tqO (by have:=hI2.1.len;omega) hlim k4.pre;rw[show m2.length=l.length by have:=hI2.1.len;omega] at hX;unfold He at hX;refine Cf (mu:=[.r (wuR m2 junk) 335]) [0] I7 ⟨I,trivial⟩ hX ?_;rintro r Ls F1 ⟨m3,j1,j2,rfl,rfl,rfl⟩;have hl3:=(hI2.move (j1.wide tqO (Ak _) (by have:=hI2.1.len;omega)));have hx3:=hl3.2.1.high (e:=mid) λp q x y p1 p2 p3 p4 p5 p6=>k4.high ho j1 j2 p1 p2 p3 p4 p5 p6;exact⟨(c',mid,lim,decide ((((d- c') / 8:Nat):Int)<=((d- mid:Nat):Int)),fl,m3),⟨tqP,tqP,tqP,hlim,hl3.1,hx3,(by dsimp only;exact .of hp hl3.1 hx3 tqO tqO)⟩,tqP,Ac⟩
section
variable {X:Fx} {o:Oper} {T:TE} {L:LE} {n:Nat} {F:List Fact} {D:DF} {K:KK} {k:KS}
theorem Rel.boxL {q t i off m cap g:Nat} {tq:TypeId} {a:Act} {w:World} (h:Rel X T L n F D a w) (hq:Ah L q=some (.c [.v (.slice (some ⟨g,off,none⟩) m cap)] tq)) (ht:Ah T t=some (.o (.s i off m cap))) (hv:a.tmps.getD t undef=.slice (some ⟨g,off,none⟩) m cap):Rel X T ((q,.c [.s i off m cap] tq)::L) n F D a w:=by
 obtain⟨hkb,ρ0,A,h0⟩:=h;refine⟨λk e hk=>?_,ρ0,A,λρ hρ=>?_⟩
 ·rw[As] at hk;split at hk
  ·rename_i ek;subst ek;exact hkb _ _ hq
  ·exact hkb k e hk
 have h1:=h0 ρ hρ;have rn:ρ i=g:=by
  have:=h1.tm _ _ ht;rw[hv] at this;simp[TV.den,SV.den] at this;exact this.symm
 have key:∀k e,Ah ((q,LC.c [.s i off m cap] tq)::L) k=some e->∃e0,Ah L k=some e0/\e.blk ρ k=e0.blk ρ k/\(e0.holds ρ k w->e.holds ρ k w):=by
  intro k e hk;rw[As] at hk;split at hk
  ·rename_i ek;cases hk;subst ek;refine⟨_,hq,I,λhh=>?_⟩;simpa [LC.holds,C4,SV.den,rn] using hh
  ·exact⟨e,hk,I,id⟩
 refine⟨⟨h1.tm,λk e hk=>?_,h1.a3⟩,h1.sz,h1.df,h1.kp,λk e b hk hb=>?_,λk k' e e' b hk hk' hb hb'=>?_,h1.a1,λb hb=>⟨(h1.a2 b hb).1,λk e hk hbk=>?_⟩,h1.mb⟩
 ·obtain⟨e0,h2,_,h4⟩:=key k e hk;exact h4 (h1.lo k e0 h2)
 ·obtain⟨e0,h2,h3,_⟩:=key k e hk;exact h1.nw k e0 b h2 (by rw[<-h3];exact hb)
 ·obtain⟨e0,h2,h3,_⟩:=key k e hk;obtain⟨e1,h4,h5,_⟩:=key k' e' hk';exact h1.ds k k' e0 e1 b h2 h4 (by rw[<-h3];exact hb) (by rw[<-h5];exact hb')
 ·obtain⟨e0,h2,h3,_⟩:=key k e hk;exact(h1.a2 b hb).2 k e0 h2 (by rw[<-h3];exact hbk)
theorem Ani (t:Nat) {u:TV} (u':TV) (ht:Ah T t=some u) (hd:∀ρ,u.den ρ=u'.den ρ):Wk X T L n F D ⟨(t,u')::T,L,n,F,D⟩:=by
 rintro a w ⟨hkb,ρ0,A,h0⟩;refine⟨hkb,ρ0,A,λρ hρ=>?_⟩;have h1:=h0 ρ hρ;refine⟨⟨λt' x hx=>?_,h1.lo,h1.a3⟩,h1.sz,h1.df,h1.kp,h1.nw,h1.ds,h1.a1,h1.a2,h1.mb⟩;rw[As] at hx;split at hx
 ·rename_i e;cases hx;subst e;rw[h1.tm _ _ ht,hd]
 ·exact h1.tm t' x hx
theorem Ad0 (t j q:Nat) {a:Option Addr} {e tq:TypeId} {sz m cap:Nat} {cells:List Value} (hj:Ah L j=some (.own (.slice a m cap) e sz m cells)) (ht:Ah T t=some (.o (.v (.slice a m cap)))) (hq:Ah L q=some (.c [.v (.slice a m cap)] tq)) (hqj:q≠j) (hm:0<m)
  (h:∀junk,m<=cap->OJs X o ((t,.o (.s n 0 m cap))::T) ((q,.c [.s n 0 m cap] tq)::(n,D9 (cells++junk) e)::(j,.dead)::(j,.dead)::L) (n+1) F D k K):OJs X o T L n F D k K:=by
 intro Q hQ Φ hΦ ac w hr;obtain⟨g,hs,h1,h2,h3,h4,h5,h6⟩:=hr.raw hj hm;subst h1;have hqn:q<n:=hr.1 q _ hq;have hv:ac.tmps.getD t undef=.slice (some ⟨g,0,none⟩) m cap:=by
  obtain⟨A,ρ,h0⟩:=hr.one;exact h0.tm _ _ ht
 have h7:Rel X T ((j,.ob g (Qb hs e))::(j,.dead)::L) n F D ac w:=h6.reL λk e' hk=>by
  rw[As] at hk;split at hk
  ·rename_i ek;cases hk;subst ek;exact⟨_,Gs _ _ _,λ_=>I,λ_ h=>h⟩
  ·rename_i ek;rw[As] at hk;split at hk
   ·rename_i ek2;exact absurd ek2 ek
   ·exact⟨e',by rw[As,Ar ek];exact hk,λ_=>I,λ_ h=>h⟩
 have h8:=h7.nameOb (Gs _ _ _) ht;have e1:cells++hs.drop (m*sz)=hs:=by rw[<-h3,Gp]
 have h9:Rel X ((t,.o (.s n 0 m cap))::T) ((n,D9 (cells++hs.drop (m*sz)) e)::(j,.dead)::(j,.dead)::L) (n+1) F D ac w:=by
  rw[e1];exact h8.reL λk e' hk=>by
   by_cases k1:k=n
   ·subst k1;rw[Gs] at hk;cases hk;exact⟨_,Gs _ _ _,λ_=>I,λ_ h=>h⟩
   ·rw[As,Ar k1] at hk;by_cases k2:k=j
    ·subst k2;rw[Gs] at hk;cases hk;exact⟨.dead,by rw[As,Ar k1,Gs],λ_=>I,λ_ h=>h⟩
    ·rw[As,Ar k2,As,Ar k2] at hk;exact⟨e',by rw[As,Ar k1,As,Ar k2,As,Ar k2,As,Ar k2];exact hk,λ_=>I,λ_ h=>h⟩
 refine h (hs.drop (m*sz)) h4 Q hQ Φ hΦ ac w (h9.boxL (g:=g) ?_ (Gs _ _ _) hv);rw[As,Ar tqO,As,Ar hqj,As,Ar hqj];exact hq
end
theorem Agz (c:Int):Cm prog 339 [.slice none 0 0,.int .i64 0,.int .i64 0,He c] [] [] (Bd (.tuple #[])):=by
 unfold He;refine tqm [.o (.v (.slice none 0 0)),.o (.v (.int .i64 0)),.o (.v (.int .i64 0)),.o (.v (.func (.func 295) #[.int .i64 c] #[]))] func339 ntmps339 λ_ _=>?_;refine Af (z:=1) ?_;refine Hj 1 ?_;exact tqE
theorem Ahp (c:Int) (lim:Int):Cm prog 326 [.slice none 0 0,.int .i64 0,.int .i64 0,.int .i64 lim,He c] [] [] (Bd (.tuple #[])):=by
 have hI:=Agz c;unfold He at hI⊢;refine tqm [.o (.v (.slice none 0 0)),.o (.v (.int .i64 0)),.o (.v (.int .i64 0)),.o (.v (.int .i64 lim)),.o (.v (.func (.func 295) #[.int .i64 c] #[]))] func326 ntmps326 λ_ _=>?_;refine Hj 1 ?_;refine Af (z:=0) ?_;refine tqc I5 (λ_=>hI) ?_;exact tqE
theorem Afk (c:Int):Cm prog 294 [.slice none 0 0,He c] [] [] (Bd (.tuple #[])):=by
 have hI:=Ahp c (V9 0);unfold He at hI⊢;refine tqm [.o (.v (.slice none 0 0)),.o (.v (.func (.func 295) #[.int .i64 c] #[]))] func294 ntmps294 λ_ _=>?_;refine B8 (S2 (ki:=.i64) (kj:=.u64) (r:=((0:Nat):Int)) tqK tqK tqD I I) ?_;refine tqc I5 (λ_=>OB 0 tqO) ?_;refine tqc I5 (λ_=>hI) ?_;exact tqE
theorem Abs (c:Int) (l:List Wu) (junk:List Value) (cap:Nat) (hl:l.length<=300):Cx prog 294 [.o (.s 0 0 l.length cap),.o (.v (He c))] [.r (wuR l junk) 335] [] (BS (ltW c) 0 l.length l junk):=by
 have hlen:V9 l.length<=1000:=by
  unfold V9;split
  ·omega
  ·have:Nat.log2 l.length<=l.length:=Nat.log2_le_self _;omega
 have hX:=Aob c (Amy c) l.length l junk cap 0 l.length (V9 l.length) tqO hl (Ax _) (Ak _) hlen (λk x y h1 h2 h3=>by omega);unfold He at hX⊢;refine tqx func294 ntmps294 ?_;intro ρ w0 A0;refine B8 (S2 (ki:=.i64) (kj:=.u64) (r:=((l.length:Nat):Int)) tqK tqK (MN tqO tqO) I I) ?_;refine tqc I5 (λ_=>OB l.length hl) ?_;refine Cf (mu:=[.r (wuR l junk) 335]) [0] I7 ⟨I,trivial⟩ hX ?_;rintro r Ls F1 ⟨m,k1,k2,rfl,rfl,rfl⟩;exact Dg [0] (.t []) [.r (wuR m junk) 335] [] ⟨I,trivial⟩ ⟨m,k1,k2,I,I,I⟩
theorem Sw.mem {a b:Nat} {l m:List Wu} (h:Sw a b l m):∀u,u∈m↔u∈l:=by
 induction h with
 |refl=>exact λ_=>Iff.rfl
 |step h0 h1 h2 h3 h4 h5 ih=>
  rename_i m i j;intro u;rw[<-ih u,B6,B6];constructor
  ·rintro ⟨k,hk⟩;rw[Li tqO tqO] at hk;split at hk
   ·exact⟨_,hk⟩
   ·split at hk
    ·exact⟨_,hk⟩
    ·exact⟨_,hk⟩
  ·rintro ⟨k,hk⟩;by_cases e1:k=j
   ·subst e1;refine⟨i,?_⟩;rw[Li tqO tqO];by_cases e2:i=k
    ·rw[Bi e2,e2];exact hk
    ·rw[Ar e2,Bi I];exact hk
   by_cases e2:k=i
   ·subst e2;exact⟨j,by rw[Li tqO tqO,Bi I];exact hk⟩
   ·exact⟨k,by rw[Li tqO tqO,Ar e1,Ar e2];exact hk⟩
theorem VO {xs:List Wt} (h:D5 xs=true):xs.length<=256:=by
 simp only[D5,Ad,Aq] at h;exact h.1.1
def U9 (c:Int) (q:List Wt):List Wu:=bif D5 q&&O1 c then wus q else []
def Amz (c:Int) (q:List Wt):Gx:=λe _ F1=>∃b m a cap,e=.returned (.func (.func 296) #[] #[.pointer (some ⟨b,0,none⟩)])/\F1=[B9 b [.slice a m.length cap] 375,slF wuL 6 (.slice a m.length cap) m]/\AR c m/\m.length<=256/\∀u,u∈m↔u∈U9 c q
theorem Akz (c:Int) (a:Option Addr) (cap:Nat) (q:List Wt):Cm prog 240 [.slice a q.length cap,.int .i64 c] [] [slF wtL 5 (.slice a q.length cap) q] (Amz c q):=by
 have hNil:=Afk c;unfold He at hNil;refine tqm [.o (.v (.slice a q.length cap)),.o (.v (.int .i64 c))] func240 ntmps240 λ_ _=>?_;refine tqc I5 (λ_=>Q0 a cap q) ?_;cases hW:D5 q
 ·have hA:U9 c q=[]:=by unfold U9;rw[hW];rfl
  refine tqc I5 (λ_=>hNil) ?_;refine Eh [slF wuL 6 (.slice none 0 0) []] (λA w h f hf=>by
   rw[Bc] at hf;subst hf;exact Kw _ _ _ _) ?_
  exact Lp [0] [slF wuL 6 (.slice none 0 0) []] I3 λρ=>⟨ρ 0,[],none,0,I,I,.nil,Ax _,λu=>by rw[hA]⟩
 refine Ai (λh1=>?_) λh1=>?_;rotate_left
 ·have hA:U9 c q=[]:=by unfold U9 O1;rw[show decide (0<=c)=false by simp;omega];simp
  refine tqc I5 (λ_=>hNil) ?_;refine Eh [slF wuL 6 (.slice none 0 0) []] (λA w h f hf=>by
   rw[Bc] at hf;subst hf;exact Kw _ _ _ _) ?_
  exact Lp [0] [slF wuL 6 (.slice none 0 0) []] I3 λρ=>⟨ρ 0,[],none,0,I,I,.nil,Ax _,λu=>by rw[hA]⟩
 refine Ai (λh2=>?_) λh2=>?_;rotate_left
 ·have hA:U9 c q=[]:=by unfold U9 O1;rw[show decide (c<=64)=false by simp;omega];simp
  refine tqc I5 (λ_=>hNil) ?_;refine Eh [slF wuL 6 (.slice none 0 0) []] (λA w h f hf=>by
   rw[Bc] at hf;subst hf;exact Kw _ _ _ _) ?_
  exact Lp [0] [slF wuL 6 (.slice none 0 0) []] I3 λρ=>⟨ρ 0,[],none,0,I,I,.nil,Ax _,λu=>by rw[hA]⟩
 have hA:U9 c q=wus q:=by unfold U9 O1;rw[hW,D4 h1,D4 h2];rfl
 have hql:=(VO hW);refine Rl (MM 335 6) ?_;refine Br (γ:=Nat×Option Addr×Nat) (λg=>g.1<=q.length/\(g.1=0->g.2.1=none/\g.2.2=0)) (λg=>[(20,.o (.v (.int .i64 g.1)))]) (λg=>[(0,.c [.v (.slice g.2.1 g.1 g.2.2)] 375),(1,.own (.slice g.2.1 g.1 g.2.2) 335 6 g.1 ((wus (q.take g.1)).flatMap wuL))]) (λ_=>[]) (λg=>q.length- g.1) (0,none,0) ⟨Ax _,λ_=>⟨I,I⟩⟩ Ac ?_;rintro ⟨k,a1,c1⟩ ⟨hk,hz⟩;dsimp only at hk hz⊢;refine Ai (λh3=>?_) λh3=>?_
 ·obtain⟨x,hx⟩:=A9 (xs:=q) (k:=k);refine Dk (slF wtL 5 (.slice a q.length cap) q) (B1 hx) ?_;rintro ⟨b,off,rfl⟩;refine Au (Bb (i:=k)) ?_;refine Au (Cu (vs:=wtL x) (slF wtL 5 (.slice (some ⟨b,off,none⟩) q.length cap) q) (Du hx)) ?_;refine Dq 1 (m':=1) (news:=wuL ⟨x,(k:Int)⟩) I I I I I I I I I tqD I I I (Uq (news:=wuL ⟨x,(k:Int)⟩) I I) I (YU _) tqO tqM ?_;intro a2 c2;refine Af (z:=(k+1:Nat)) ?_;refine⟨(k+1,a2,c2),⟨tqP,λh=>by dsimp only at h;omega⟩,tqP,?_⟩;have e:(wus (q.take (k+1))).flatMap wuL=(wus (q.take k)).flatMap wuL++wuL ⟨x,(k:Int)⟩:=by rw[VS hx];simp
  simp only[e];exact Ac
 obtain rfl:k=q.length:=by omega
 rw[D3];by_cases h0:q.length=0
 ·obtain⟨rfl,rfl⟩:=hz h0;have hA:U9 c q=[]:=by rw[hA,E0 h0];rfl
  rw[h0];refine tqc I5 (λ_=>hNil) ?_;refine Eh [slF wuL 6 (.slice none 0 0) []] (λA w h f hf=>by
   rw[Bc] at hf;subst hf;exact Kw _ _ _ _) ?_
  exact Lp [0] [slF wuL 6 (.slice none 0 0) []] I3 λρ=>⟨ρ 0,[],none,0,I,I,.nil,Ax _,λu=>by rw[hA]⟩
 conv=>whnf
 refine Ad0 32 1 0 (m:=q.length) I I I tqD tqO λjunk hc=>?_;have hX:=Abs c (wus q) junk c1 (by rw[GK];omega);rw[GK] at hX;unfold He at hX;refine O6 (Ani 34 (.o (.v (.func (.func 295) #[.int .i64 c] #[]))) I λ_=>I) ?_;refine Cf (mu:=[.r (wuR (wus q) junk) 335]) [2] I7 ⟨I,trivial⟩ hX ?_;rintro r Ls F1 ⟨m,k1,k2,rfl,rfl,rfl⟩;have hml:m.length=q.length:=by rw[k1.len,GK]
 refine KA 2 I I I I λg=>?_;refine Eh [slF wuL 6 (.slice (some ⟨g,0,none⟩) q.length c1) m] (λA w h f hf=>by
  rw[Bc] at hf;subst hf;exact Wj hml.symm tqO GJ (h (B9 g (wuR m junk) 335) tqS)) ?_
 refine Lp [0] [slF wuL 6 (.slice (some ⟨g,0,none⟩) q.length c1) m] I3 λρ=>⟨ρ 0,m,some ⟨g,0,none⟩,c1,I,?_,.of (by rw[hml];exact k2),tqO,λu=>?_⟩
 ·rw[hml];rfl
 ·rw[hA];exact k1.mem u
def Aox (u:Wu):List Value:=[.int .i64 u.pos,.agg (wtL u.w).toArray]
theorem Aeo (b:Nat) (a:Option Addr) (cap:Nat) (xs:List Wu) (hl:xs.length<=1000000):Y2 prog 296 [.pointer (some ⟨b,0,none⟩)] [B9 b [.slice a xs.length cap] 375,slF wuL 6 (.slice a xs.length cap) xs] Aox xs:=by
 refine Xs (tab:=tb) (ok:=R8) [.o (.v (.pointer (some ⟨b,0,none⟩)))] func296 ntmps296 I I (λ_=>I) ?_;intro S;refine Xi I ?_;refine Au (Ce (S.inF (B9 b [.slice a xs.length cap] 375)) λA w h=>L9 (o:=0) I _ w h.2) ?_;refine Rj (γ:=Nat) (λk=>k<=xs.length) (λk=>[(7,.o (.v (.int .i64 k)))]) (λ_=>[]) (λk=>[S.jF k,S.inF (slF wuL 6 (.slice a xs.length cap) xs)]) (λk=>xs.length- k) 0 (Ax _) (Ac (hM:=by simp[It.X])) ?_;intro k hk;refine Ai (λh1=>?_) λh1=>?_
 ·obtain⟨x,hx⟩:=A9 (xs:=xs) (k:=k);refine Dk (S.inF (slF wuL 6 (.slice a xs.length cap) xs)) (λA w h=>B1 hx _ w h.2) ?_;rintro ⟨b1,off,rfl⟩;refine Au Bb ?_;refine Au (Cu (vs:=wuL x) (S.inF (slF wuL 6 (.slice (some ⟨b1,off,none⟩) xs.length cap) xs)) λA w h=>Du hx _ w h.2) ?_;refine Rz k [slF wuL 6 (.slice (some ⟨b1,off,none⟩) xs.length cap) xs] I I I I hx (λ_=>I) tqS tqS ?_ ?_
  ·refine Af (z:=(k+1:Nat)) ?_;exact⟨k+1,tqO,tqP,Ac (hM:=by simp[It.X])⟩
  ·exact Px (k+1) tqS tqO tqO I I
 ·obtain rfl:k=xs.length:=by omega
  exact Og tqS I I
variable {F0:List Fact} {a:Option Addr} {cap g:Nat} {lb:List Value} {xs:List Int}
theorem Ag4 (hg:Ah tb.fn g=some ()) (p:Int->Bool) (hlen:xs.length<=1099511627776) (hc:∀x∈xs,Cm prog g (.int .i64 x::lb) [] F0 (Bd (.bool (p x)))):
  Cm prog 325 [.slice a xs.length cap,.func (.func g) #[] lb.toArray] [] (slF Bt 1 (.slice a xs.length cap) xs::F0) (Bd (.int .i64 (Hl p xs))):=by
 refine tqm [.o (.v (.slice a xs.length cap)),.o (.v (.func (.func g) #[] lb.toArray))] func325 ntmps325 λ_ _=>?_;refine Br (γ:=Nat) (λk=>k<=xs.length/\∀(j:Nat) x,j<k->xs[j]? =some x->p x=false) (λk=>[(8,.o (.v (.int .i64 k)))]) (λ_=>[]) (λ_=>[]) (λk=>xs.length- k) 0 ⟨Ax _,λj x hj=>by omega⟩ Ac ?_;rintro k ⟨hk,hno⟩;refine Ai (λh1=>?_) λh1=>?_
 ·obtain⟨x,hx⟩:=A9 (xs:=xs) (k:=k)
  skip
  refine Dk (slF Bt 1 (.slice a xs.length cap) xs) (B1 hx) ?_;rintro ⟨b,off,rfl⟩;refine Au Bb ?_;refine Au (Ce (slF Bt 1 (.slice (some ⟨b,off,none⟩) xs.length cap) xs) (Eg hx (j:=0) I)) ?_;have hc2:∀ρ:Nm,Cm prog g (Gn ρ [] [TV.o (.v (.int .i64 x))] (lb.map PV.v)) [] F0 (Bd (.bool (p x))):=λρ=>by
   have e:Gn ρ [] [TV.o (.v (.int .i64 x))] (lb.map PV.v)=.int .i64 x::lb:=(Qs ρ [TV.o (.v (.int .i64 x))] lb).trans I;rw[e];exact hc x (Av hx)
  refine tqc ⟨I,I,I,I,hg⟩ (λρ=>hc2 ρ) (hF0:=λf hf=>B3 _ hf) ?_;cases hb:p x
  ·refine Af (z:=(k+1:Nat)) ?_;refine⟨k+1,⟨tqO,λj y hj hy=>?_⟩,tqP,Ac⟩;rcases Bg.1 hj with h|rfl
   ·exact hno j y h hy
   ·rw[hx] at hy;cases hy;exact hb
  ·exact Al [] I2 λ_=>⟨by rw[No hno hx hb];rfl,I⟩
 ·obtain rfl:k=xs.length:=by omega
  exact Al [] I2 λ_=>⟨by rw[Mg λj x hj=>hno j x (Aa.1 hj).1 hj];rfl,I⟩
theorem Ag3 (hg:Ah tb.fn g=some ()) (p:Int->Bool) (hlen:xs.length<=1099511627776) (hc:∀x∈xs,Cm prog g (.int .i64 x::lb) [] F0 (Bd (.bool (p x)))):
  Cm prog 292 [.slice a xs.length cap,.func (.func g) #[] lb.toArray] [] (slF Bt 1 (.slice a xs.length cap) xs::F0) (Bd (.bool (xs.any p))):=by
 refine tqm [.o (.v (.slice a xs.length cap)),.o (.v (.func (.func g) #[] lb.toArray))] func292 ntmps292 λ_ _=>?_;refine tqc I5 (λ_=>Ag4 hg p hlen hc) ?_;exact Al [] I2 λ_=>⟨Bx Hq,I⟩
theorem Ajg (hg:Ah tb.fn g=some ()) (r:Bool) {x:Int} {b:Nat} (hc:Cm prog g (.int .i64 x::lb) [] F0 (Bd (.bool r))):Cm prog 293 [.int .i64 x,.pointer (some ⟨b,0,none⟩)] [] (B9 b [.func (.func g) #[] lb.toArray] 145::F0) (Bd (.bool (!r))):=by
 refine tqm [.o (.v (.int .i64 x)),.o (.v (.pointer (some ⟨b,0,none⟩)))] func293 ntmps293 λ_ _=>?_;refine Eu (cs:=[.func (.func g) #[] lb.toArray]) (b:=b) (ct:=145) ?_;have hc2:∀ρ:Nm,Cm prog g (Gn ρ [] [TV.o (.v (.int .i64 x))] (lb.map PV.v)) [] F0 (Bd (.bool r)):=λρ=>by
  have e:Gn ρ [] [TV.o (.v (.int .i64 x))] (lb.map PV.v)=.int .i64 x::lb:=(Qs ρ [TV.o (.v (.int .i64 x))] lb).trans I;rw[e];exact hc
 refine tqc ⟨I,I,I,I,hg⟩ (λρ=>hc2 ρ) (hF0:=λf hf=>B3 _ hf) ?_;exact tqE
theorem Acm (hg:Ah tb.fn g=some ()) (p:Int->Bool) (hlen:xs.length<=1000000) (hc:∀x∈xs,Cm prog g (.int .i64 x::lb) [] F0 (Bd (.bool (p x)))):Cm prog 238 [.slice a xs.length cap,.func (.func g) #[] lb.toArray] [] (slF Bt 1 (.slice a xs.length cap) xs::F0) (Bd (.bool (xs.all p))):=by
 refine tqm [.o (.v (.slice a xs.length cap)),.o (.v (.func (.func g) #[] lb.toArray))] func238 ntmps238 λ_ _=>?_;refine Aj (F0:=slF Bt 1 (.slice a xs.length cap) xs::F0) [0] [] I7 (λρ=>(Ag3 (F0:=B9 (ρ 0) [.func (.func g) #[] lb.toArray] 145::F0) (lb:=[.pointer (some ⟨ρ 0,0,none⟩)]) I (λx=> !p x) tqO λx hx=>Ajg hg (p x) (hc x hx)).facts λA w h f hf=>h f (by simp only[Ap] at hf;rcases hf with rfl|rfl|hf;(simp);(simp[Mh,C4,SV.den]);(simp[hf]))) (hno:=.inr tqH) ?_;rintro e cs F1 _ ⟨rfl,rfl⟩;rw[show xs.all p= !xs.any λx=> !p x by rw[List.not_any_eq_all_not];simp];exact tqE
theorem Ajh (hg:Ah tb.fn g=some ()) (r:Bool) {x:Wt} {b:Nat} (hc:Cm prog g (.agg (wtL x).toArray::lb) [] F0 (Bd (.bool r))):Cm prog 299 [.agg (wtL x).toArray,.pointer (some ⟨b,0,none⟩)] [] (B9 b [.func (.func g) #[] lb.toArray] 264::F0) (Bd (.bool (!r))):=by
 refine tqm [.g [.v (.int .i64 x.site),.v (.int .i64 x.use),.v (.int .i64 x.mode),.v (.int .i64 x.prio),.v (.int .i64 x.age)],.o (.v (.pointer (some ⟨b,0,none⟩)))] func299 ntmps299 λ_ _=>?_;refine Eu (cs:=[.func (.func g) #[] lb.toArray]) (b:=b) (ct:=264) ?_;have hc2:∀ρ:Nm,Cm prog g (Gn ρ [] [TV.g [.v (.int .i64 x.site),.v (.int .i64 x.use),.v (.int .i64 x.mode),.v (.int .i64 x.prio),.v (.int .i64 x.age)]] (lb.map PV.v)) [] F0 (Bd (.bool r)):=λρ=>by
  have e:Gn ρ [] [TV.g [.v (.int .i64 x.site),.v (.int .i64 x.use),.v (.int .i64 x.mode),.v (.int .i64 x.prio),.v (.int .i64 x.age)]] (lb.map PV.v)=.agg (wtL x).toArray::lb:=(Qs ρ _ lb).trans I;rw[e];exact hc
 refine tqc ⟨I,I,I,I,hg⟩ (λρ=>hc2 ρ) (hF0:=λf hf=>B3 _ hf) ?_;exact tqE
theorem Alx (hg:Ah tb.fn g=some ()) (p:Wt->Bool) {n:Nat} {xs:List Wt} (hn:n=xs.length) (hlen:xs.length<=1000000) (hc:∀x∈xs,Cm prog g (.agg (wtL x).toArray::lb) [] F0 (Bd (.bool (p x)))):Cm prog 245 [.slice a n cap,.func (.func g) #[] lb.toArray] [] (slF wtL 5 (.slice a n cap) xs::F0) (Bd (.bool (xs.all p))):=by
 subst hn;refine tqm [.o (.v (.slice a xs.length cap)),.o (.v (.func (.func g) #[] lb.toArray))] func245 ntmps245 λ_ _=>?_;refine Aj (F0:=slF wtL 5 (.slice a xs.length cap) xs::F0) [0] [] I7 (λρ=>(Ag5 (F0:=B9 (ρ 0) [.func (.func g) #[] lb.toArray] 264::F0) (lb:=[.pointer (some ⟨ρ 0,0,none⟩)]) I (λx=> !p x) tqO λx hx=>Ajh hg (p x) (hc x hx)).facts λA w h f hf=>h f (by simp only[Ap] at hf;rcases hf with rfl|rfl|hf;(simp);(simp[Mh,C4,SV.den]);(simp[hf]))) (hno:=.inr tqH) ?_;rintro e cs F1 _ ⟨rfl,rfl⟩;rw[show xs.all p= !xs.any λx=> !p x by rw[List.not_any_eq_all_not];simp];exact tqE
theorem Akj (m:Int):Cm prog 239 [.int .i64 m] [] [] (Bd (.bool (Dt m))):=by
 refine tqm [.o (.v (.int .i64 m))] func239 ntmps239 λ_ _=>?_;refine tqc I5 (λ_=>HD m) ?_;unfold QT;cases Dt m
 ·exact tqE
 ·exact tqE
def Vi (x m:Int):Bool:=Dt x&&Dt m&&El x m
theorem YE (m:Int) (w:Wt) (b:Nat):Cm prog 241 [.int .i64 m,.pointer (some ⟨b,0,none⟩)] [] [B9 b (wtL w) 167] (Bd (.bool (Vi w.mode m))):=by
 refine tqm [.o (.v (.int .i64 m)),.o (.v (.pointer (some ⟨b,0,none⟩)))] func241 ntmps241 λ_ _=>?_;refine Eu (cs:=wtL w) (b:=b) (ct:=167) ?_;refine tqc I5 (λ_=>MK w.mode m) ?_;unfold Vi;generalize (Dt w.mode&&Dt m&&El w.mode m)=r;exact tqE
theorem Akk (c:Int) (o w:Wt) (bl bf bw:Nat):Cm prog 243 [.agg (wtL o).toArray,.pointer (some ⟨bl,0,none⟩),.pointer (some ⟨bf,0,none⟩)] [] [B9 bl [.int .i64 c] 3,B9 bf [.func (.func 241) #[] #[.pointer (some ⟨bw,0,none⟩)]] 145,B9 bw (wtL w) 167] (Bd (.bool (!decide (c<=o.age)||Vi w.mode o.mode))):=by
 refine tqm [.g [.v (.int .i64 o.site),.v (.int .i64 o.use),.v (.int .i64 o.mode),.v (.int .i64 o.prio),.v (.int .i64 o.age)],.o (.v (.pointer (some ⟨bl,0,none⟩))),.o (.v (.pointer (some ⟨bf,0,none⟩)))] func243 ntmps243 λ_ _=>?_;refine Eu (cs:=[.int .i64 c]) (b:=bl) (ct:=3) ?_;refine tqc I5 (λ_=>DA ⟨o,0⟩ c) ?_;unfold Jo;cases ha:decide (c<=o.age)
 ·exact tqE
 refine Eu (cs:=[.func (.func 241) #[] #[.pointer (some ⟨bw,0,none⟩)]]) (b:=bf) (ct:=145) ?_;refine tqc I5 (λ_=>YE o.mode w bw) ?_;rw[show (!true||Vi w.mode o.mode)=Vi w.mode o.mode by simp];generalize Vi w.mode o.mode=r;exact tqE
theorem Akl {c:Int} {q:List Wt} {held:List Int} {m:List Wu} (hh:held.all Dt=true) (hs:AR c m) (hm:∀u,u∈m↔u∈U9 c q):Kt c q held=m.find? (Q3 c q held):=by
 unfold Kt;rw[hh,Tv];unfold U9 at hm;cases hb:(D5 q&&O1 c)
 ·rw[hb] at hm;simp only[By,Bw,iff_false] at hm;rw[List.eq_nil_iff_forall_not_mem.2 hm];rfl
 ·rw[hb] at hm;simp only[Ci] at hm;rw[Ci];have hq:q.all wtB=true:=by
   simp only[Ad] at hb;have:=Ft.1 hb.1;rw[A6];exact this.2.1
  exact Ags (Ahm c q) hs (λu=>TM hq) hm
theorem Amr {c:Int} {q:List Wt} {held:List Int} {u:Wu} {i:Nat} (hW:D5 q=true) (hh:held.all Dt=true) (hu:q[i]? =some u.w) (hp:u.pos=i):(held.all (Vi u.w.mode)&&(q.take i).all λo=> !decide (c<=o.age)||Vi u.w.mode o.mode)=Q3 c q held u:=by
 have hm:∀w∈q,Dt w.mode=true:=λw hw=>by
  have:=(Ft.1 hW).2.1 w hw;simp only[wtB,Ad,Aq] at this;simp only[Dt,Ad,Aq];omega
 have hu1:=hm u.w (Av hu);have e1:∀m,Dt m=true->Vi u.w.mode m=El u.w.mode m:=λm h=>by unfold Vi;rw[hu1,h];rfl
 unfold Q3;rw[hp,Ej]
 congr 1
 ·rw[Be,A6,A6];exact forall₂_congr λm h=>by rw[e1 m (A6.1 hh m h)]
 ·rw[Be,A6,A6];exact forall₂_congr λw h=>by rw[e1 w.mode (hm w (List.mem_of_mem_take h))]
theorem IH {α:Type} {p:α->Bool}:∀ {m:List α} {k:Nat} {u:α},(∀j v,j<k->m[j]? =some v->p v=false)->m[k]? =some u->p u=true->m.find? p=some u
 |x::r,0,u,_,h,hp=>by
  cases h;rw[List.find?_cons,hp]
 |x::r,k+1,u,hn,h,hp=>by
  rw[List.find?_cons,hn 0 x tqO I];exact IH (k:=k) (λj v hj hv=>hn (j+1) v tqO (by simpa using hv)) (by simpa using h) hp
theorem Amt (c:Int) (a:Option Addr) (cap:Nat) (q:List Wt) (ah:Option Addr) (ch:Nat) (held:List Int) (hl:q.length<=1000000) (hhl:held.length<=1000000):Cm prog 160 [.slice a q.length cap,.int .i64 c,.slice ah held.length ch] [] [slF wtL 5 (.slice a q.length cap) q,slF Bt 1 (.slice ah held.length ch) held] (Bd (Aau (Kt c q held))):=by
 refine tqn [.o (.v (.slice a q.length cap)),.o (.v (.int .i64 c)),.o (.v (.slice ah held.length ch))] func160 ntmps160 I I (λ_ _=>I) λ_ _=>?_;refine Aj (F0:=[slF Bt 1 (.slice ah held.length ch) held]) [] [] I7 (λ_=>Acm (F0:=[]) (g:=239) (lb:=[]) I Dt hhl λx _=>Akj x) ?_;rintro e cs F1 _ ⟨rfl,rfl⟩;cases hh:held.all Dt
 ·rw[show Kt c q held=none by unfold Kt;rw[hh];simp];exact Fg (Al [] I2 λ_=>⟨I,I⟩)
 refine Aj (F0:=[slF wtL 5 (.slice a q.length cap) q]) [] [] I7 (λ_=>Akz c a cap q) ?_;rintro e cs F1 _ ⟨b,m,am,cm,rfl,rfl,hs,hml,hm⟩;have hN:=Akl hh hs hm;refine Rk (γ:=Unit) (λk _=>∀j u,j<k->m[j]? =some u->Q3 c q held u=false) (λ_ _=>([(0,.c [.v (.slice a q.length cap)] 27),(1,.c [.v (.int .i64 c)] 3),(2,.c [.v (.slice ah held.length ch)] 248),(3,.c [.v (.int .i64 0)] 3),(4,.c [.v (.bool false)] 4)],[B9 b [.slice am m.length cm] 375,slF wuL 6 (.slice am m.length cm) m,slF wtL 5 (.slice a q.length cap) q,slF Bt 1 (.slice ah held.length ch) held])) () (Aeo b am cm m tqO) I I I (λ_=>I) I (Ax _) (λj u hj=>by omega) ?_ tqS ?_ ?_
 ·exact Ac
 ·rintro k u- hu hno l1 w1 A1 M1 N1 hN1;have hua:=(hm u).1 (Av hu);have hW:D5 q=true:=by
   unfold U9 at hua;cases h:D5 q
   ·rw[h] at hua;cases hua
   ·rfl
  obtain⟨i,hpi,hxi⟩:∃i:Nat,u.pos=i/\q[i]? =some u.w:=by
   unfold U9 at hua;cases h:(D5 q&&O1 c)<;>rw[h] at hua
   ·cases hua
   ·obtain⟨i,x,h1,rfl⟩:=Y0.1 hua;exact⟨i,I,h1⟩
  have hil:=(Aa.1 hxi).1;have hMay:=Amr (c:=c) hW hh hxi hpi;obtain⟨⟨site,use,mode,prio,age⟩,pos⟩:=u;dsimp only at hpi hxi hMay;subst hpi;intro w2 A2 M2 N2 hN2;refine⟨I,?_⟩;refine Aj (F0:=[slF Bt 1 (.slice ah held.length ch) held]) [5] [] I7 (λρ=>(Acm (F0:=[B9 (ρ 5) (wtL ⟨site,use,mode,prio,age⟩) 167]) (g:=241) (lb:=[.pointer (some ⟨ρ 5,0,none⟩)]) I (Vi mode) hhl λx _=>YE x ⟨site,use,mode,prio,age⟩ (ρ 5)).facts (λA w h f hf=>by
   simp only[Ap,Bw,Ed] at hf;rcases hf with rfl|rfl
   ·exact h _ (.tail _ (.head _))
   ·exact h _ (.head _))) (hno:=.inr tqH) ?_
  rintro e cs F1 _ ⟨rfl,rfl⟩;cases h1:held.all (Vi mode)
  ·rw[h1,Hb] at hMay;refine⟨(),λj v hj hv=>?_,Ac (hM:=Fy hN2)⟩;rcases Bg.1 hj with h3|rfl
   ·exact hno j v h3 hv
   ·rw[hu] at hv;cases hv;exact hMay.symm
  refine Dk (p:=i<=cap) (slF wtL 5 (.slice a q.length cap) q) (λA w h=>by have:=(YN h).2;omega) λhcap=>?_;refine Mi (i:=i) (hi:=hcap) ?_;refine Aj (F0:=[slF wtL 5 (.slice a q.length cap) q]) [1,6,5] [] I7 (λρ=>(Alx (F0:=[B9 (ρ 1) [.int .i64 c] 3,B9 (ρ 6) [.func (.func 241) #[] #[.pointer (some ⟨ρ 5,0,none⟩)]] 145,B9 (ρ 5) (wtL ⟨site,use,mode,prio,age⟩) 167]) (g:=243) (lb:=[.pointer (some ⟨ρ 1,0,none⟩),.pointer (some ⟨ρ 6,0,none⟩)]) (a:=a) (cap:=cap) (n:=i) (xs:=q.take i) I (λo=> !decide (c<=o.age)||Vi mode o.mode) (by rw[Am];omega) (by rw[Am];omega) λo _=>Akk c o ⟨site,use,mode,prio,age⟩ (ρ 1) (ρ 6) (ρ 5)).facts (λA w h f hf=>by
   simp only[Ap,Bw,Ed] at hf;rcases hf with rfl|rfl|rfl|rfl
   ·exact Xt tqO (h (slF wtL 5 (.slice a q.length cap) q) (.tail _ (.tail _ (.tail _ (.head _)))))
   ·exact h _ (.head _)
   ·exact h _ (.tail _ (.head _))
   ·exact h _ (.tail _ (.tail _ (.head _))))) (hno:=.inr tqH) ?_
  rintro e cs F1 _ ⟨rfl,rfl⟩;cases h2:(q.take i).all λo=> !decide (c<=o.age)||Vi mode o.mode
  ·rw[h1,h2,L6] at hMay;refine⟨(),λj v hj hv=>?_,Ac (hM:=Fy hN2)⟩;rcases Bg.1 hj with h3|rfl
   ·exact hno j v h3 hv
   ·rw[hu] at hv;cases hv;exact hMay.symm
  rw[h1,h2,Tv] at hMay;have hfind:m.find? (Q3 c q held)=some ⟨⟨site,use,mode,prio,age⟩,(i:Int)⟩:=IH hno hu hMay.symm;rw[hN,hfind];refine⟨I,?_⟩;refine Yb (Oa Qo I ?_);exact Fg (Al [] I2 λ_=>⟨I,I⟩)
 ·rintro- hno;have hfind:m.find? (Q3 c q held)=none:=by
   rw[Rc];intro u hu;obtain⟨j,hj⟩:=B6.1 hu;rw[hno j u (Aa.1 hj).1 hj];simp
  rw[hN,hfind];refine Yb (Oa Qo I ?_);exact Fg (Al [] I2 λ_=>⟨I,I⟩)
def Vl (n l s lim:Int) (x:Tok):Tok×Hd×Bool×Int:=bif Fq n l s x&&O1 lim then(match Kt lim x.q (Et x.hs) with|some u=>(Ol x u,Dv u,true,0)|none=>(x,hdZ,false,0)) else(Fd,hdZ,false,2)
def XW (r:Tok×Hd×Bool×Int):Gx:=λe _ F1=>∃p',e=.returned (.tuple #[.agg (G5 r.1 p').toArray,.agg (hdL r.2.1).toArray,.bool r.2.2.1,.int .i64 r.2.2.2])/\F1=Bs r.1 p'
theorem SG (b c d:Nat):Cm prog 159 [.pointer (some ⟨b,0,none⟩),.pointer (some ⟨c,0,none⟩),.pointer (some ⟨d,0,none⟩)] [(b,G5 Fd Dx,33),(c,hdL hdZ,170),(d,[.bool false],4)] [] (λe cs F1=>e=.returned (.tuple #[])/\cs=[G5 Fd Dx,hdL hdZ,[.bool false]]/\F1=[]):=by
 refine tqm [.o (.p 0 0),.o (.p 1 0),.o (.p 2 0)] func159 ntmps159 (hargs:=λρ h=>by simp[TV.den,SV.den,h 0 b I,h 1 c I,h 2 d I]) λ_ _=>?_;exact Al [] I2 λ_=>⟨I,I,I⟩
theorem Agx (a:Option Addr) (cap:Nat) (q:List Wt) (i:Nat) (w:Wt) (hl:q.length<=1000000) (hW:D5 q=true) (hi:q[i]? =some w):Cm prog 162 [.slice a q.length cap,.int .i64 i] [] [slF wtL 5 (.slice a q.length cap) q] (λe _ F1=>∃a c,e=.returned (.tuple #[.slice a (F9 q i w.mode).length c,.agg (wtL w).toArray,.int .i64 0])/\F1=[slF wtL 5 (.slice a (F9 q i w.mode).length c) (F9 q i w.mode)]):=
 Cm.mono (XJ a cap q i hl) λe cs F1 h=>by
  have hil:=(Aa.1 hi).1;unfold DD at h;rw[Ar (by rw[hW];simp),Ar (by simp;omega),Ej] at h;obtain⟨x,a,c,h1,h2⟩:=h;rw[hi] at h1;cases h1;exact⟨a,c,h2⟩
theorem Aj3 (a:Option Addr) (cap:Nat) (xs:List Hd) (x:Hd) (hl:xs.length<=1000000) (h1:Ff xs=true) (h2:hdB x=true) (h3:xs.any (C9 x.site)=false) (h4:xs.any (Rm x.mode)=false):Cm prog 163 [.slice a xs.length cap,.agg (hdL x).toArray] [] [slF hdL 3 (.slice a xs.length cap) xs] (λe _ F1=>∃a c,e=.returned (.tuple #[.slice a (Is xs x).length c,.int .i64 0])/\F1=[slF hdL 3 (.slice a (Is xs x).length c) (Is xs x)]):=
 Cm.mono (Adh a cap xs x hl) λe cs F1 h=>by
  unfold IK at h;rw[Ar (by rw[h1,h2];simp),Ar (by rw[h3];simp),Ar (by rw[h4];simp)] at h;rw[BV];exact h
theorem Aj1 (n l s lim:Int) (x:Tok) (p:Sls) (hx:x.small):Cm prog 87 [.agg #[.int .i64 n,.int .i64 l,.int .i64 s],.agg (G5 x p).toArray,.int .i64 lim] [] (Bs x p) (XW (Vl n l s lim x)):=by
 have hO:=GD n l s x p hx;have hV:Vl n l s lim x=(bif Fq n l s x&&O1 lim then(match Kt lim x.q (Et x.hs) with|some u=>(Ol x u,Dv u,true,0)|none=>(x,hdZ,false,0)) else(Fd,hdZ,false,2):Tok×Hd×Bool×Int):=I;refine tqn [.g [.v (.int .i64 n),.v (.int .i64 l),.v (.int .i64 s)],.g (Ps x p),.o (.v (.int .i64 lim))] func87 ntmps87 I I (λ_ _=>I) λ_ _=>?_;refine Sp I I I I I I I I ?_;refine Cf (mu:=[]) [] I7 trivial hO (hF0:=by simp[Bs]) ?_;rintro r Ls F1 (⟨hB,p',rfl,rfl,rfl⟩|⟨hB,rfl,rfl,rfl⟩);rotate_left
 ·rw[hB,Hb,By] at hV;rw[hV];refine Rb [2,3,4] Ri (Df func132 tqK I) (Df func159 tqK I) I tqS (λρ=>SG _ _ _) I (Fg ?_);refine Eh (Bs Fd Dx) (λA w _ f hf=>Ib f hf) ?_;exact Al (Bs Fd Dx) I2 λ_=>⟨Dx,I,I⟩
 rw[hB,C8] at hV;obtain⟨h1,h2,h3,_,hW⟩:=Lr hB;refine tqc I5 (λ_=>HW lim 0 64) ?_;refine Aj [] [] I7 (λ_=>Oc (O1 lim) 2) ?_;rintro e cs F1 _ ⟨⟨hb,rfl⟩|⟨hb,rfl⟩,rfl⟩;rotate_left
 ·rw[hb,By] at hV;rw[hV];refine Rb [2,3,4] Ri (Df func132 tqK I) (Df func159 tqK I) I tqS (λρ=>SG _ _ _) I (Fg ?_);refine Eh (Bs Fd Dx) (λA w _ f hf=>Ib f hf) ?_;exact Al (Bs Fd Dx) I2 λ_=>⟨Dx,I,I⟩
 rw[hb,Ci] at hV;have hMo:=SJ p'.a3 p'.c3 x.hs hx.2.2;rw[BL h2] at hMo;have hml:(Et x.hs).length=x.hs.length:=by simp[Et]
 have hNx:=λa c=>Amt lim p'.a2 p'.c2 x.q a c (Et x.hs) hx.2.1 (by rw[hml];exact hx.2.2);simp only[hml] at hNx;refine Ao [11,12,17] (tqs 0 17<| .op 17 .z) [6] [] [] [] λ_=>?_;refine Aj [] [] I7 (λ_=>hMo) (hF0:=by simp[Bs]) ?_;rintro e cs F1 _ ⟨a1,c1,rfl,rfl⟩;refine tqQ<|tqc I5 (λ_=>hNx a1 c1) (hF0:=by simp[Bs]) ?_;refine tqQ ?_;cases hu:Kt lim x.q (Et x.hs) with
 |none=>
  rw[hu] at hV;rw[hV];refine tqQ<|Ao [5,6,7,8] (tqs 0 8<| .op 8 .z) [3,6] [(6,3)] [] [] λ_=>?_;refine tqQ<|tqQ<|tqQ<|tqQ<|Lm O3 (Df func132 tqK I) (Fg ?_);exact Al (Bs x p') I2 (λ_=>⟨p',I,I⟩) (hF:=λf hf=>by simp[hf])
 |some u=>
  rw[hu] at hV;rw[hV];obtain⟨_,⟨i,hpi,hxi⟩,k3,k4,k5,_⟩:=GrtH.of hB hu;clear hu hV hNx hMo;obtain⟨⟨site,use,mode,prio,age⟩,pos⟩:=u;dsimp only at hpi hxi k4 k5;subst hpi;refine tqQ<|Aj [] [] I7 (λ_=>Agx p'.a2 p'.c2 x.q i ⟨site,use,mode,prio,age⟩ hx.2.1 hW hxi) (hF0:=by simp[Bs]) ?_;rintro e cs F1 _ ⟨a5,c5,rfl,rfl⟩;refine En func157 ntmps157 ?_;intro w3 A3 M3 N3 hN3;refine Aj [] [] I7 (λ_=>Oc true 0) ?_;rintro e cs F1 _ ⟨⟨_,rfl⟩|⟨hc,rfl⟩,rfl⟩;rotate_left
  ·cases hc
  refine⟨I,?_⟩;refine Ao [6] (tqs 0 11<| .op 11 .z) [3,6] [] [] [] λ_=>?_;refine Aj [] [] I7 (λ_=>Aj3 p'.a3 p'.c3 x.hs ⟨site,use,mode⟩ hx.2.2 h2 k3 k4 k5) (hF0:=by simp[Bs]) ?_;rintro e cs F1 _ ⟨a6,c6,rfl,rfl⟩;refine tqQ<|En func157 ntmps157 ?_;intro w4 A4 M4 N4 hN4;refine Aj [] [] I7 (λ_=>Oc true 0) ?_;rintro e cs F1 _ ⟨⟨_,rfl⟩|⟨hc,rfl⟩,rfl⟩;rotate_left
  ·cases hc
  refine⟨I,?_⟩;refine Ao [5,6,7,8] (tqs 0 8<| .op 8 .z) [3,6] [(6,3)] [] [] λ_=>?_;refine tqQ<|tqQ<|tqQ<|tqQ<|Lm O3 (Df func132 tqK I) (Fg ?_);exact Al (Bs (Ol x ⟨⟨site,use,mode,prio,age⟩,(i:Int)⟩) ⟨p'.a1,p'.c1,a5,c5,a6,c6⟩) I2 (λ_=>⟨⟨p'.a1,p'.c1,a5,c5,a6,c6⟩,I,I⟩) (hF:=λf hf=>by
   simp only[Bs,Ol,Dv,Ej,Ap,Bw,Ed] at hf;rcases hf with rfl|rfl|rfl<;>simp[Bs])
theorem Abr (a:Option Addr) (cap:Nat) (xs:List Slt) (k:Nat) (x:Slt) (hk:k<xs.length) (hl:xs.length<=1000000):Cm prog 116 [.slice a xs.length cap,.int .i64 k,.agg (Bm x).toArray] [] [slF Bm 8 (.slice a xs.length cap) xs] (λe _ F1=>∃a' c',e=.returned (.slice a' xs.length c')/\F1=[slF Bm 8 (.slice a' xs.length c') (xs.set k x)]):=by
 obtain⟨y,hy⟩:=A9 (xs:=xs) (k:=k) (h:=hk);refine tqm [.o (.v (.slice a xs.length cap)),.o (.v (.int .i64 (k:Int))),.g [.v (.int .i64 x.use),.v (.int .i64 x.state),.v (.int .i64 x.mode),.v (.int .i64 x.prio),.v (.int .i64 x.due),.v (.int .i64 x.ctr.value),.v (.int .i64 x.ctr.floor),.v (.int .u64 x.ctr.version)]] func116 ntmps116 λ_ _=>?_;refine Ik I5 (λ_=>I) (GR a cap xs tqO) ?_;intro a1 c1;refine W7 1 I tqO ?_;rintro g rfl;refine Au (Bb (i:=k) (hi:=hk)) ?_;refine Yg 1 (xs:=Bm x) (cells':=(xs.set k x).flatMap Bm) I I I I I I I tqO I (by rw[F8 Dy,Dy];omega) (λv hv=>Hs (xs:=[x]) v (by simpa using hv)) ?_ ?_
 ·have:=BO (x':=x) (j:=0) (ys:=Bm x) Dy hy (by rw[Dy];exact Ak _) (by simp[Bm]) [];rw[Bu,Bu] at this;rw[Bl];exact this
 refine Dj (D8 (j:=1) (v:=.slice (some ⟨g,0,none⟩) xs.length c1) (m:=xs.length) (enc:=Bm) (xs:=xs.set k x) (.inl I) Dy tqS I) ?_;exact Al [slF Bm 8 (.slice (some ⟨g,0,none⟩) xs.length c1) (xs.set k x)] I2 λ_=>⟨_,_,I,I⟩
def YO (xs:List Slt) (k:Int):Gx:=λe _ F1=>((∃x,0<=k/\k<xs.length/\xs[k.toNat]? =some x/\e=.returned (.agg (Bm x).toArray))\/(¬(0<=k/\k<xs.length)/\e=.panicked [{v:=.iface 45 (.int .i64 4),recovered:=false}]))/\F1=[]
theorem Aid (a:Option Addr) (cap:Nat) (xs:List Slt) (k:Int):Cm prog 232 [.slice a xs.length cap,.int .i64 k] [] [slF Bm 8 (.slice a xs.length cap) xs] (YO xs k):=by
 refine tqm [.o (.v (.slice a xs.length cap)),.o (.v (.int .i64 k))] func232 ntmps232 λ_ _=>?_;unfold YO;refine Ai (λh1=>?_) λh1=>?_;rotate_left
 ·refine Aj [] [] I7 (λ_=>Nh false 4) ?_;rintro e cs F1 _ ⟨⟨h,_⟩|⟨_,rfl⟩,rfl⟩
  ·cases h
  ·exact Jn [] I λ_=>⟨.inr ⟨tqO,I⟩,I⟩
 obtain⟨i,rfl⟩:∃i:Nat,k=i:=⟨k.toNat,tqO⟩;refine Aj [] [] I7 (λ_=>Nh (decide ((i:Int)<xs.length)) 4) ?_;rintro e cs F1 _ ⟨⟨h2,rfl⟩|⟨h2,rfl⟩,rfl⟩;rotate_left
 ·have h2:=Xn h2;exact Jn [] I λ_=>⟨.inr ⟨tqO,I⟩,I⟩
 have h2:=Kf h2;obtain⟨x,hx⟩:=A9 (xs:=xs) (k:=i);refine Dk (slF Bm 8 (.slice a xs.length cap) xs) (B1 hx) ?_;rintro ⟨b,off,rfl⟩;refine Au (Bb (i:=i)) ?_;refine Au (Cu (vs:=Bm x) (slF Bm 8 (.slice (some ⟨b,off,none⟩) xs.length cap) xs) (Du hx)) ?_;exact Al [] I2 λ_=>⟨.inl ⟨x,h1,h2,by rw[Ej];exact hx,I⟩,I⟩
theorem EX (b c:Nat):Cm prog 231 [.pointer (some ⟨b,0,none⟩),.pointer (some ⟨c,0,none⟩)] [(b,[.slice none 0 0],37),(c,[.bool false],4)] [] (λe cs F1=>e=.returned (.tuple #[])/\cs=[[.slice none 0 0],[.bool false]]/\F1=[]):=by
 refine tqm [.o (.p 0 0),.o (.p 1 0)] func231 ntmps231 (hargs:=λρ h=>by simp[TV.den,SV.den,h 0 b I,h 1 c I]) λ_ _=>?_;exact Al [] I2 λ_=>⟨I,I,I⟩
def Ya (x:Slt) (c:Ctr):Slt:= {x with state:=2,due:=0,ctr:=c}
def Ly (x:Slt) (use m:Int):Bool:=decide (x.state=1)&&decide (x.use=use)&&decide (x.mode=m)
def Oj (n l s:Int) (xs:List Slt) (k use m:Int) (c:Ctr):List Slt×Bool×Int:=
 bif Jl n l s xs&&Ho c then(if 0<=k/\k<xs.length then(match xs[k.toNat]? with
  |some x=>bif Ly x use m then(xs.set k.toNat (Ya x c),true,0) else(xs,false,0)
  |none=>([],false,4)) else([],false,4)) else([],false,2)
def Afj (ki:IntKind) (r:List Slt×Bool×Int):Gx:=λe _ F1=>∃a c,e=.returned (.tuple #[.slice a r.1.length c,.bool r.2.1,.int ki r.2.2])/\F1=[slF Bm 8 (.slice a r.1.length c) r.1]
theorem WZ (n l s:Int) (a:Option Addr) (cap:Nat) (xs:List Slt) (k use m:Int) (c:Ctr) (hl:xs.length<=1000000):Cm prog 151 [.agg #[.int .i64 n,.int .i64 l,.int .i64 s],.slice a xs.length cap,.int .i64 k,.int .i64 use,.int .i64 m,.agg (Ke c).toArray] [] [slF Bm 8 (.slice a xs.length cap) xs] (Afj .i64 (Oj n l s xs k use m c)):=by
 refine tqn [.g [.v (.int .i64 n),.v (.int .i64 l),.v (.int .i64 s)],.o (.v (.slice a xs.length cap)),.o (.v (.int .i64 k)),.o (.v (.int .i64 use)),.o (.v (.int .i64 m)),.g [.v (.int .i64 c.value),.v (.int .i64 c.floor),.v (.int .u64 c.version)]] func151 ntmps151 I I (λ_ _=>I) λ_ _=>?_;refine Sp I I I I I I I I ?_;refine Ao [3,5,6] (tqs 0 6<| .op 6 .z) [0,1] [] [12,13,14] [] λ_=>?_;refine tqc I5 (λ_=>Vd c) ?_;refine tqQ<|tqQ ?_;have hE:(S9 c == 0)=Ho c:=by unfold S9;cases Ho c<;>rfl
 rw[hE];refine Aj [5] [] I7 (F0:=[slF Bm 8 (.slice a xs.length cap) xs]) (λρ=>UZ n l s a cap xs hl (Ho c) (ρ 5)) (hno:=.inr tqH) ?_;have hG:Oj n l s xs k use m c=(bif Jl n l s xs&&Ho c then(if 0<=k/\k<xs.length then(match xs[k.toNat]? with
  |some x=>bif Ly x use m then(xs.set k.toNat (Ya x c),true,0) else(xs,false,0)
  |none=>([],false,4)) else([],false,4)) else([],false,2):List Slt×Bool×Int):=I
 rintro e cs F1 _ ⟨⟨hb,rfl⟩|⟨hb,rfl⟩,rfl⟩;rotate_left
 ·rw[hb,By] at hG;rw[hG];refine⟨⟨I,I,I,trivial⟩,?_⟩;refine Rb [2,3] DO (Df func108 tqK I) (Df func231 tqK I) I tqS (λρ=>EX _ _) I (Fg ?_);refine Eh [slF Bm 8 (.slice none 0 0) []] (λA w _ f hf=>by cases Bc.1 hf;exact Kw _ _ _ _) ?_;exact Al [slF Bm 8 (.slice none 0 0) []] I2 λ_=>⟨none,0,I,I⟩
 rw[hb,Ci] at hG;refine tqQ<|Aj [] [] I7 (λ_=>Aid a cap xs k) ?_;rintro e cs F1 _ ⟨⟨x,h1,h2,hx,rfl⟩|⟨h1,rfl⟩,rfl⟩;rotate_left
 ·rw[Ar h1] at hG;rw[hG];refine Rb [2,3] DO (Df func108 tqK I) (Df func231 tqK I) I tqS (λρ=>EX _ _) I (Fg ?_);refine Eh [slF Bm 8 (.slice none 0 0) []] (λA w _ f hf=>by cases Bc.1 hf;exact Kw _ _ _ _) ?_;exact Al [slF Bm 8 (.slice none 0 0) []] I2 λ_=>⟨none,0,I,I⟩
 rw[Bi ⟨h1,h2⟩,hx] at hG;dsimp only at hG;obtain⟨i,rfl⟩:∃i:Nat,k=i:=⟨k.toNat,tqO⟩;rw[Ej] at hG hx;have hil:i<xs.length:=by omega
 obtain⟨xu,xs1,xm,xp,xd,⟨cv,cf,cn⟩⟩:=x;refine A7 (λg1=>?_) λg1=>?_
 ·rw[show Ly ⟨xu,xs1,xm,xp,xd,⟨cv,cf,cn⟩⟩ use m=false by simp at g1;simp[Ly,g1]] at hG;rw[By] at hG;rw[hG];refine Aj [] [] I7 (λ_=>Wz a cap xs hl) ?_;rintro e cs F1 _ ⟨a1,c1,rfl,rfl⟩;refine Lm Tj (Df func108 tqK I) (Fg ?_);exact Al [slF Bm 8 (.slice a1 xs.length c1) xs] I2 λ_=>⟨a1,c1,I,I⟩
 refine A7 (λg2=>?_) λg2=>?_
 ·rw[show Ly ⟨xu,xs1,xm,xp,xd,⟨cv,cf,cn⟩⟩ use m=false by simp at g2;simp[Ly,g2]] at hG;rw[By] at hG;rw[hG];refine Aj [] [] I7 (λ_=>Wz a cap xs hl) ?_;rintro e cs F1 _ ⟨a1,c1,rfl,rfl⟩;refine Lm Tj (Df func108 tqK I) (Fg ?_);exact Al [slF Bm 8 (.slice a1 xs.length c1) xs] I2 λ_=>⟨a1,c1,I,I⟩
 refine A7 (λg3=>?_) λg3=>?_
 ·rw[show Ly ⟨xu,xs1,xm,xp,xd,⟨cv,cf,cn⟩⟩ use m=false by simp at g3;simp[Ly,g3]] at hG;rw[By] at hG;rw[hG];refine Aj [] [] I7 (λ_=>Wz a cap xs hl) ?_;rintro e cs F1 _ ⟨a1,c1,rfl,rfl⟩;refine Lm Tj (Df func108 tqK I) (Fg ?_);exact Al [slF Bm 8 (.slice a1 xs.length c1) xs] I2 λ_=>⟨a1,c1,I,I⟩
 rw[show Ly ⟨xu,xs1,xm,xp,xd,⟨cv,cf,cn⟩⟩ use m=true by simp at g1 g2 g3;simp[Ly,g1,g2,g3]] at hG;rw[Ci] at hG;rw[hG];refine Ao [2,4,6] (tqs 0 6<| .op 6 .z) [1] [] [] [] λ_=>?_;refine tqQ<|tqQ<|tqQ<|Aj [] [] I7 (λ_=>Abr a cap xs i (Ya ⟨xu,xs1,xm,xp,xd,⟨cv,cf,cn⟩⟩ c) hil hl) ?_;rintro e cs F1 _ ⟨a1,c1,rfl,rfl⟩;refine Lm Tj (Df func108 tqK I) (Fg ?_);exact Al [slF Bm 8 (.slice a1 xs.length c1) (xs.set i (Ya ⟨xu,xs1,xm,xp,xd,⟨cv,cf,cn⟩⟩ c))] I2 λ_=>⟨a1,c1,by simp only[Mr];rfl,by simp only[Mr]⟩
def Ig:Lck:=⟨false,false,Fd,0,⟨0,0⟩,[],[],[]⟩
def Ia:LckS:=⟨Dx,none,0,none,0,none,0⟩
theorem So {A:Nat->Prop} {w:World}:∀f∈C7 Ig Ia,f.h A w:=by
 intro f hf;simp only[C7,Ig,Ia,Fd,Dx,Ap,Bw,Ed] at hf;rcases hf with rfl|rfl|rfl|rfl|rfl|rfl<;>exact Kw _ _ _ _
theorem Wx:Jh prog 21:=by
 intro n pe K lb w;have hn:∀w:World,(binOp .neq 20 .nilIface .nilIface).run prog w=.ok (.bool false) w:=λ_=>by kernel_rfl
 refine G4 func21 I trivial λc₀ cs hu=>?_;simp only[ntmps21,E9,Ct,Ep,Nat.reduceAdd,Nat.reduceSub,Fu,Fv,Gz,Gd,Cs,E2];apply Mp;apply Jy;simp[wpOpsSIn,go_sem,recoverD,hu,Exit.thenS];refine Iw I (H9.2 ?_);generalize hQ:(λe a' w'=>bodyPostS _ _ _ _ _ e a' _ w')=Q;have HQ:=Fm hQ;clear hQ
 go_wp2
 rw[<-HQ.out];cases c₀;simp_all [bodyPostS,results,results21]
theorem Z3:Ld prog 21 45 45:=by
 intro nn pe K lb n older w R hnn hE hK hR;have hn:∀(w:World) (n:Int),(binOp .neq 20 (.iface 45 (.int .i64 n)) .nilIface).run prog w=.ok (.bool true) w:=λ_ _=>by kernel_rfl
 have ht:∀(w:World) (n:Int),(Instr.typeAssert (.iface 45 (.int .i64 n)) 20 45 true).run prog w=.ok (.tuple #[.int .i64 n,.bool true]) w:=λ_ _=>by kernel_rfl
 have eK:∀args w,(callFunc K args).run prog w=.ok (.enter K args) w:=hE;refine G4 func21 I trivial λc₀ cs hu=>?_;simp only[ntmps21,E9,Ct,Ep,Nat.reduceAdd,Nat.reduceSub,Fu,Fv,Gz,Gd,Cs,E2];apply Mp;apply Jy;simp[wpOpsSIn,go_sem,recoverD,hu,Exit.thenS];refine Iw I (H9.2 ?_);generalize hQ:(λe a' w'=>bodyPostS _ _ _ _ _ e a' _ w')=Q;have HQ:=Fm hQ;clear hQ
 go_wp2_with fail
 refine hK.mono ?_;rintro e w1 ⟨rfl,hr⟩;obtain⟨v,hv⟩:=hR w1 hr;have c1:=BD hv
 go_wp2
 rw[<-HQ.out];cases c₀;simp_all [bodyPostS,results,results21]
 exact⟨w1,hr,I⟩
end Go.Proofs.YtjofafbkkpdgbaaGreat
