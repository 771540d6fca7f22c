/- A part of the proof of LockOpens: rules and contracts. No condition. -/
import Derived.Test.YtjofafbkkpdgbaaGreatPnak
set_option maxRecDepth 100000
set_option maxHeartbeats 4000000
set_option linter.all false
namespace Go.Proofs.YtjofafbkkpdgbaaGreat
open Go.Proofs.Tryz
open Go.RowKit Go.Shelf
deriving instance DecidableEq for Ctr
theorem RZ (x y:Ctr):Il [4,4,8] (Ke x) (Ke y)=some (decide (x=y)):=by
 obtain⟨a,b,c⟩:=x;obtain⟨d,e,f⟩:=y;have h:Il [4,4,8] (Ke ⟨a,b,c⟩) (Ke ⟨d,e,f⟩)=some (a == d&&(b == e&&(c == f&&true))):=I;rw[h]
 congr 1
 rw[Be];simp
theorem SP (a:Int):Cm prog 281 [.int .i64 a] [] [] (Bd (.bool false)):=by
 refine tqm [.o (.v (.int .i64 a))] func281 ntmps281 λ_ _=>?_;exact Al [] I2 λ_=>⟨Bx (by(simp)),I⟩
theorem ZI (a b:Int):Cm prog 220 [.int .i64 a,.int .i64 b] [] [] (Bd (.int .i64 (Kv a b))):=by
 refine tqm [.o (.v (.int .i64 a)),.o (.v (.int .i64 b))] func220 ntmps220 λ_ _=>?_;refine tqc I5 (λ_=>SP a) ?_;refine tqc I5 (λ_=>SP b) ?_;unfold Kv;refine Ai (λh1=>?_) λh1=>?_
 ·rw[Bi h1];exact tqE
 rw[Ar h1];refine Ai (λh2=>?_) λh2=>?_
 ·rw[Bi h2];exact tqE
 rw[Ar h2];exact tqE
structure Tok where
 age:Int
 seq:List Int
 q:List Wt
 hs:List Hd
 c:Ctr
 deriving DecidableEq
structure Sls where
 a1:Option Addr
 c1:Nat
 a2:Option Addr
 c2:Nat
 a3:Option Addr
 c3:Nat
def Tok.s1 (x:Tok) (s:Sls):Value:=.slice s.a1 x.seq.length s.c1
def Tok.s2 (x:Tok) (s:Sls):Value:=.slice s.a2 x.q.length s.c2
def Tok.s3 (x:Tok) (s:Sls):Value:=.slice s.a3 x.hs.length s.c3
def G5 (x:Tok) (s:Sls):List Value:=[.int .i64 x.age,.slice s.a1 x.seq.length s.c1,.slice s.a2 x.q.length s.c2,.slice s.a3 x.hs.length s.c3,.int .i64 x.c.value,.int .i64 x.c.floor,.int .u64 x.c.version]
def Bs (x:Tok) (s:Sls):List Fact:=[slF Bt 1 (.slice s.a1 x.seq.length s.c1) x.seq,slF wtL 5 (.slice s.a2 x.q.length s.c2) x.q,slF hdL 3 (.slice s.a3 x.hs.length s.c3) x.hs]
def Tok.small (x:Tok):Prop:=x.seq.length<=1000000/\x.q.length<=1000000/\x.hs.length<=1000000
theorem Afp (x y:Tok) (s r:Sls) (hx:x.small) (hy:y.small):Cm prog 148 [.agg (G5 x s).toArray,.agg (G5 y r).toArray] [] (Bs x s++Bs y r) (Bd (.bool (decide (x=y)))):=by
 obtain⟨hx1,hx2,hx3⟩:=hx;obtain⟨hy1,hy2,hy3⟩:=hy;obtain⟨age,seq,q,hs,⟨v,f,n⟩⟩:=x;obtain⟨age',seq',q',hs',⟨v',f',n'⟩⟩:=y;refine tqm [.g [.v (.int .i64 age),.v (.slice s.a1 seq.length s.c1),.v (.slice s.a2 q.length s.c2),.v (.slice s.a3 hs.length s.c3),.v (.int .i64 v),.v (.int .i64 f),.v (.int .u64 n)],.g [.v (.int .i64 age'),.v (.slice r.a1 seq'.length r.c1),.v (.slice r.a2 q'.length r.c2),.v (.slice r.a3 hs'.length r.c3),.v (.int .i64 v'),.v (.int .i64 f'),.v (.int .u64 n')]] func148 ntmps148 λ_ _=>?_;refine tqc I5 (λ_=>ZI age age') ?_;by_cases ha:age=age';rotate_left
 ·rw[show decide ((⟨age,seq,q,hs,⟨v,f,n⟩⟩:Tok)=⟨age',seq',q',hs',⟨v',f',n'⟩⟩)=false by simp[ha]];have e:Kv age age'= -1\/Kv age age'=1:=by
   unfold Kv;by_cases h:age<age'
   ·exact .inl (Bi h)
   ·right
    rw[Ar h,Bi tqO]
  rcases e with e|e
  ·rw[e];exact tqE
  ·rw[e];exact tqE
 rw[show Kv age age'=0 by unfold Kv;rw[Ar tqO,Ar tqO]];refine tqc I5 (λ_=>An0 s.a1 r.a1 s.c1 r.c1 seq seq' hx1 hy1) (hF0:=by simp[Bs]) ?_;cases h1:decide (seq=seq')
 ·rw[show decide ((⟨age,seq,q,hs,⟨v,f,n⟩⟩:Tok)=⟨age',seq',q',hs',⟨v',f',n'⟩⟩)=false by simp at h1;simp[h1]];exact tqE
 refine tqc I5 (λ_=>Al5 s.a2 r.a2 s.c2 r.c2 q q' hx2 hy2) (hF0:=by simp[Bs]) ?_;cases h2:decide (q=q')
 ·rw[show decide ((⟨age,seq,q,hs,⟨v,f,n⟩⟩:Tok)=⟨age',seq',q',hs',⟨v',f',n'⟩⟩)=false by simp at h2;simp[h2]];exact tqE
 refine tqc I5 (λ_=>Al4 s.a3 r.a3 s.c3 r.c3 hs hs' hx3 hy3) (hF0:=by simp[Bs]) ?_;cases h3:decide (hs=hs')
 ·rw[show decide ((⟨age,seq,q,hs,⟨v,f,n⟩⟩:Tok)=⟨age',seq',q',hs',⟨v',f',n'⟩⟩)=false by simp at h3;simp[h3]];exact tqE
 refine B8 (Zy (xs:=Ke ⟨v,f,n⟩) (ys:=Ke ⟨v',f',n'⟩) (r:=decide ((⟨v,f,n⟩:Ctr)=⟨v',f',n'⟩)) (ks:=[4,4,8]) Sj Yh I I I (λ_=>I) (λ_=>I) (RZ _ _)) ?_;rw[show decide ((⟨age,seq,q,hs,⟨v,f,n⟩⟩:Tok)=⟨age',seq',q',hs',⟨v',f',n'⟩⟩)=decide ((⟨v,f,n⟩:Ctr)=⟨v',f',n'⟩) by simp at h1 h2 h3;simp[ha,h1,h2,h3]];exact tqE
theorem Zp (x y:Tok) (s r:Sls) (hx:x.small) (hy:y.small):Cm prog 42 [.agg (G5 x s).toArray,.agg (G5 y r).toArray] [] (Bs x s++Bs y r) (Bd (.bool (decide (x=y)))):=by
 obtain⟨hx1,hx2,hx3⟩:=hx;obtain⟨hy1,hy2,hy3⟩:=hy;obtain⟨age,seq,q,hs,⟨v,f,n⟩⟩:=x;obtain⟨age',seq',q',hs',⟨v',f',n'⟩⟩:=y;dsimp only at hx1 hx2 hx3 hy1 hy2 hy3;obtain⟨a1,c1,a2,c2,a3,c3⟩:=s;obtain⟨d1,e1,d2,e2,d3,e3⟩:=r;unfold Bs;dsimp only;refine tqm [.g [.v (.int .i64 age),.v (.slice a1 seq.length c1),.v (.slice a2 q.length c2),.v (.slice a3 hs.length c3),.v (.int .i64 v),.v (.int .i64 f),.v (.int .u64 n)],.g [.v (.int .i64 age'),.v (.slice d1 seq'.length e1),.v (.slice d2 q'.length e2),.v (.slice d3 hs'.length e3),.v (.int .i64 v'),.v (.int .i64 f'),.v (.int .u64 n')]] func42 ntmps42 λ_ _=>?_;obtain⟨Z,hZ⟩:∃Z:Bool,Z=decide ((⟨age,seq,q,hs,⟨v,f,n⟩⟩:Tok)=⟨age',seq',q',hs',⟨v',f',n'⟩⟩):=⟨_,I⟩;rw[<-hZ];refine A7 (λha=>?_) λha=>?_
 ·have ha:age≠age':=by simpa using ha
  rw[show Z=false by rw[hZ];simp[ha]];exact tqE
 have ha:age=age':=by simpa using ha
 refine A7 (λh1=>?_) λh1=>?_
 ·have h1:seq≠seq':=by rintro rfl;simp at h1
  rw[show Z=false by rw[hZ];simp[h1]];exact tqE
 have hlen:seq.length=seq'.length:=by simp at h1;omega
 refine B8 (Ny (xs:=Ke ⟨v,f,n⟩) (ys:=Ke ⟨v',f',n'⟩) (r:=decide ((⟨v,f,n⟩:Ctr)=⟨v',f',n'⟩)) (ks:=[4,4,8]) Sj Yh I I I (λ_=>I) (λ_=>I) (RZ _ _)) ?_;cases hc:decide ((⟨v,f,n⟩:Ctr)=⟨v',f',n'⟩)
 ·rw[show Z=false by simp only[Gc] at hc;rw[hZ];simp only[Gc];intro h;injection h with _ _ _ _ h5;exact hc h5];exact tqE
 simp only[Aq] at hc;refine Br (γ:=Nat) (λk=>k<=seq.length/\∀j,j<k->seq[j]? =seq'[j]?) (λk=>[(5,.o (.v (.int .i64 k)))]) (λ_=>[]) (λ_=>[]) (λk=>seq.length- k) 0 ⟨Ax _,λj hj=>by omega⟩ Ac ?_;rintro k ⟨hk,heq⟩;refine Ai (λh2=>?_) λh2=>?_;rotate_left
 ·have hseq:seq=seq':=by
   refine F6 λj=>?_;by_cases hj:j<k
   ·exact heq j hj
   ·rw[Cg tqO,Cg tqO]
  refine tqc I5 (λ_=>Abg a2 d2 c2 e2 q q' hx2 hy2) ?_;cases h3:decide (q=q')
  ·rw[show Z=false by simp at h3;rw[hZ];simp[h3]];exact tqE
  refine tqc I5 (λ_=>Abf a3 d3 c3 e3 hs hs' hx3 hy3) ?_;rw[show Z=decide (hs=hs') by simp at h3;rw[hZ,ha,hseq,h3,hc];simp];exact tqE
 obtain⟨x,hx⟩:=A9 (xs:=seq) (k:=k);obtain⟨y,hy⟩:=A9 (xs:=seq') (k:=k);refine Ec (slF Bt 1 (.slice a1 seq.length c1) seq) (B1 hx) ?_;rintro ⟨b,off,rfl⟩;refine Ec (slF Bt 1 (.slice d1 seq'.length e1) seq') (B1 hy) ?_;rintro ⟨b2,off2,rfl⟩;refine Ao [] (tqs 0 10<| .op 10 .z) [0,1] [] [] [slF Bt 1 (.slice (some ⟨b,off,none⟩) seq.length c1) seq,slF Bt 1 (.slice (some ⟨b2,off2,none⟩) seq'.length e1) seq'] λ_=>?_;refine⟨_,Bb (i:=k),?_⟩;refine⟨_,Ce (slF Bt 1 (.slice (some ⟨b,off,none⟩) seq.length c1) seq) (Eg hx (j:=0) I),?_⟩;refine⟨_,Bb (i:=k),?_⟩;refine⟨_,Ce (slF Bt 1 (.slice (some ⟨b2,off2,none⟩) seq'.length e1) seq') (Eg hy (j:=0) I),?_⟩;refine A7 (λhxy=>?_) λhxy=>?_;rotate_left
 ·have hxy:x=y:=by simpa using hxy
  refine Af (z:=(k+1:Nat)) ?_;refine⟨k+1,⟨tqO,λj hj=>?_⟩,tqP,Ac⟩;rcases Bg.1 hj with h|rfl
  ·exact heq j h
  ·rw[hx,hy,hxy]
 ·have hxy:x≠y:=by simpa using hxy
  have hne:=Ye hx hy hxy;rw[show Z=false by rw[hZ];simp[hne]];exact tqE
theorem UH (a:Option Addr) (cap:Nat) (xs:List Hd) (z:Int) (hl:xs.length<=1000000):Cm prog 105 [.slice a xs.length cap,.int .i64 z] [] [slF hdL 3 (.slice a xs.length cap) xs] (Bd (.bool (xs.any (C9 z)))):=by
 refine tqm [.o (.v (.slice a xs.length cap)),.o (.v (.int .i64 z))] func105 ntmps105 λ_ _=>?_;refine tqc I5 (λ_=>Yl a cap xs z hl) ?_;rw[<-Hq];exact tqE
def Lk (n:Int):Bool:=decide (0<=n)&&decide (n<=1099511627776)
def Gm (seq:List Int) (site use:Int):Bool:=decide (site<seq.length)&&(use- 1 == seq.getD site.toNat 0)
def Fq (n l s:Int) (x:Tok):Bool:=Ef n l s&&Lk x.age&&((x.seq.length:Int) == n*s)&&D5 x.q&&decide (x.hs.length<=256)&&Ff x.hs&&Ho x.c&&x.seq.all Lk&&x.q.all (λw=>Gm x.seq w.site w.use&& !x.hs.any (C9 w.site))&&x.hs.all λh=>Gm x.seq h.site h.use
theorem Ry {seq:List Int} {i:Nat} {use v:Int} (hv:seq[i]? =some v):Gm seq i use=(use- 1 == v):=by
 unfold Gm;have:=(Aa.1 hv).1;rw[show decide (((i:Nat):Int)<seq.length)=true by simp;omega];simp[D1,hv]
theorem Zq (n l s:Int) (x:Tok) (p:Sls) (hx:x.small):Cm prog 51 [.agg #[.int .i64 n,.int .i64 l,.int .i64 s],.agg (G5 x p).toArray] [] (Bs x p) (Bd (.bool (Fq n l s x))):=by
 obtain⟨hx1,hx2,hx3⟩:=hx;obtain⟨age,seq,q,hs,⟨cv,cf,cn⟩⟩:=x;dsimp only at hx1 hx2 hx3;obtain⟨a1,c1,a2,c2,a3,c3⟩:=p;unfold Bs;dsimp only;refine tqm [.g [.v (.int .i64 n),.v (.int .i64 l),.v (.int .i64 s)],.g [.v (.int .i64 age),.v (.slice a1 seq.length c1),.v (.slice a2 q.length c2),.v (.slice a3 hs.length c3),.v (.int .i64 cv),.v (.int .i64 cf),.v (.int .u64 cn)]] func51 ntmps51 λ_ _=>?_;obtain⟨Z,hZ⟩:∃Z:Bool,Z=Fq n l s ⟨age,seq,q,hs,⟨cv,cf,cn⟩⟩:=⟨_,I⟩;rw[<-hZ];unfold Fq at hZ;dsimp only at hZ;refine tqc I5 (λ_=>Ss n l s) ?_;cases hS:Ef n l s
 ·rw[hS] at hZ;rw[show Z=false by rw[hZ];simp];exact tqE
 rw[hS] at hZ;have hsh:=In hS;refine Ai (λh1=>?_) λh1=>?_
 ·rw[show Z=false by rw[hZ,show Lk age=false by simp[Lk];omega];simp];exact tqE
 refine Ai (λh2=>?_) λh2=>?_
 ·rw[show Z=false by rw[hZ,show Lk age=false by simp[Lk];omega];simp];exact tqE
 rw[show Lk age=true by simp[Lk];omega] at hZ;refine Af (hz:=Ey ?_ ?_) ?_;rotate_left
 ·have:0<=n*s:=Sa tqO tqO;omega
 ·have:n*s<=64*4:=Ph tqO tqO tqO tqO;omega
 refine A7 (λh3=>?_) λh3=>?_
 ·rw[show Z=false by rw[hZ,show ((seq.length:Int) == n*s)=false by simpa using h3];simp];exact tqE
 rw[show ((seq.length:Int) == n*s)=true by simpa using h3] at hZ;refine tqc I5 (λ_=>AI a2 c2 q hx2) ?_;cases hW:D5 q
 ·rw[hW] at hZ;rw[show Z=false by rw[hZ];simp];exact tqE
 rw[hW] at hZ;refine Ai (λh4=>?_) λh4=>?_
 ·rw[show Z=false by rw[hZ,show decide (hs.length<=256)=false by simp;omega];simp];exact tqE
 rw[show decide (hs.length<=256)=true by simp;omega] at hZ;refine tqc I5 (λ_=>CT a3 c3 hs hx3) ?_;cases hH:Ff hs
 ·rw[hH] at hZ;rw[show Z=false by rw[hZ];simp];exact tqE
 rw[hH] at hZ;refine tqc I5 (λ_=>O9 ⟨cv,cf,cn⟩) ?_;cases hC:Ho ⟨cv,cf,cn⟩
 ·rw[hC] at hZ;rw[show Z=false by rw[hZ];simp];exact tqE
 rw[hC] at hZ;simp only[C8] at hZ;refine Br (γ:=Nat) (λk=>k<=seq.length/\(seq.take k).all Lk=true) (λk=>[(5,.o (.v (.int .i64 k)))]) (λ_=>[]) (λ_=>[]) (λk=>seq.length- k) 0 ⟨Ax _,I⟩ Ac ?_;rintro k ⟨hk,hall⟩;refine Ai (λh5=>?_) λh5=>?_
 ·obtain⟨v,hv⟩:=A9 (xs:=seq) (k:=k);refine Dk (slF Bt 1 (.slice a1 seq.length c1) seq) (B1 hv) ?_;rintro ⟨b,off,rfl⟩;refine Au (Bb (i:=k)) ?_;refine Au (Ce (slF Bt 1 (.slice (some ⟨b,off,none⟩) seq.length c1) seq) (Eg hv (j:=0) I)) ?_;have bad:Lk v=false->Z=false:=λh=>by rw[hZ,Ms hv h];simp
  refine Ai (λh6=>?_) λh6=>?_
  ·rw[bad (by simp[Lk];omega)];exact tqE
  refine Au (Bb (i:=k)) ?_;refine Au (Ce (slF Bt 1 (.slice (some ⟨b,off,none⟩) seq.length c1) seq) (Eg hv (j:=0) I)) ?_;refine Ai (λh7=>?_) λh7=>?_
  ·rw[bad (by simp[Lk];omega)];exact tqE
  refine Af (z:=(k+1:Nat)) ?_;exact⟨k+1,⟨tqO,by rw[Dl,hv];simp only[Ih,hall,C8];simp[Lk];omega⟩,tqP,Ac⟩
 obtain rfl:k=seq.length:=by omega
 rw[D3] at hall;rw[hall] at hZ;simp only[C8] at hZ;refine Br (γ:=Nat) (λk=>k<=q.length/\(q.take k).all (λw=>Gm seq w.site w.use&& !hs.any (C9 w.site))=true) (λk=>[(6,.o (.v (.int .i64 k)))]) (λ_=>[]) (λ_=>[]) (λk=>q.length- k) 0 ⟨Ax _,I⟩ Ac ?_;rintro k ⟨hk,hallq⟩;refine Ai (λh5=>?_) λh5=>?_
 ·have hQBa2:q.all wtB=true:=by simp only[D5,Ad] at hW;exact hW.1.2
  obtain⟨w,hw⟩:=A9 (xs:=q) (k:=k);have hwB:wtB w=true:=A6.1 hQBa2 w (Av hw);have hwI:0<=w.site/\1<=w.use/\w.use<=1099511627776:=by simp[wtB] at hwB;omega
  obtain⟨i,hi⟩:=S3 hwI.1;refine Dk (slF wtL 5 (.slice a2 q.length c2) q) (B1 hw) ?_;rintro ⟨b,off,rfl⟩;refine Au (Bb (i:=k)) ?_;refine Au (Cu (vs:=wtL w) (slF wtL 5 (.slice (some ⟨b,off,none⟩) q.length c2) q) (Du hw)) ?_;have bad:(Gm seq w.site w.use&& !hs.any (C9 w.site))=false->Z=false:=λh=>by rw[hZ,Ms hw h];simp
  by_cases hlt:w.site<seq.length;rotate_left
  ·refine Ao [23] (tqs 0 24<| .op 24 .z) [0,1,2] [] [] [] λ_=>?_;refine Ai (λh6=>?_) λh6=>(absurd h6 tqO);rw[bad (by simp[Gm];omega)];exact tqE
  obtain⟨v,hv⟩:=A9 (xs:=seq) (k:=i);refine Ec (slF Bt 1 (.slice a1 seq.length c1) seq) (B1 hv) ?_;rintro ⟨b1,off1,rfl⟩;have hnx:Gm seq w.site w.use=(w.use- 1 == v):=by rw[hi];exact Ry hv
  refine Ao [23] (tqs 0 24<| .op 24 .z) [0,1,2] [] [] [slF Bt 1 (.slice (some ⟨b1,off1,none⟩) seq.length c1) seq,slF hdL 3 (.slice a3 hs.length c3) hs] λ_=>?_;refine Ai (λh6=>(absurd hlt tqO)) λh6=>?_;refine⟨_,Cb (z:=w.use- 1) (ho:=I) (hx:=I) (hy:=I) (hr:=I) (hz:=by rw[Ey]<;>omega),?_⟩;refine⟨_,Bb (i:=i) (hz:=hi),?_⟩;refine⟨_,Ce (slF Bt 1 (.slice (some ⟨b1,off1,none⟩) seq.length c1) seq) (Eg hv (j:=0) I),?_⟩;refine A7 (λh7=>?_) λh7=>?_
  ·rw[bad (by rw[hnx,show (w.use- 1 == v)=false by simpa using h7];rfl)];exact tqE
  have hne:(w.use- 1 == v)=true:=by simpa using h7
  refine tqc I5 (λ_=>UH a3 c3 hs w.site hx3) ?_;refine tqQ ?_;cases hA:hs.any (C9 w.site);rotate_left
  ·rw[bad (by rw[hA];simp)];exact tqE
  refine Af (z:=(k+1:Nat)) ?_;exact⟨k+1,⟨tqO,by rw[Dl,hw];simp only[Ih,hallq,C8];simp[hnx,hne,hA]⟩,tqP,Ac⟩
 obtain rfl:k=q.length:=by omega
 rw[D3] at hallq;rw[hallq] at hZ;simp only[C8] at hZ;clear hallq;refine Br (γ:=Nat) (λk=>k<=hs.length/\(hs.take k).all (λw=>Gm seq w.site w.use)=true) (λk=>[(8,.o (.v (.int .i64 k)))]) (λ_=>[]) (λ_=>[]) (λk=>hs.length- k) 0 ⟨Ax _,I⟩ Ac ?_;rintro k ⟨hk,hallq⟩;refine Ai (λh5=>?_) λh5=>?_
 ·have hQBa3:hs.all hdB=true:=by simp only[Ff,Ad] at hH;exact hH.1.1
  obtain⟨w,hw⟩:=A9 (xs:=hs) (k:=k);have hwB:hdB w=true:=A6.1 hQBa3 w (Av hw);have hwI:0<=w.site/\1<=w.use/\w.use<=1099511627776:=by simp[hdB] at hwB;omega
  obtain⟨i,hi⟩:=S3 hwI.1;refine Dk (slF hdL 3 (.slice a3 hs.length c3) hs) (B1 hw) ?_;rintro ⟨b,off,rfl⟩;refine Au (Bb (i:=k)) ?_;refine Au (Cu (vs:=hdL w) (slF hdL 3 (.slice (some ⟨b,off,none⟩) hs.length c3) hs) (Du hw)) ?_;have bad:Gm seq w.site w.use=false->Z=false:=λh=>by rw[hZ,Ms hw h]
  by_cases hlt:w.site<seq.length;rotate_left
  ·refine Ao [] (tqs 0 17<| .op 17 .z) [0,1,2] [] [] [] λ_=>?_;refine Ai (λh6=>?_) λh6=>(absurd h6 tqO);rw[bad (by simp[Gm];omega)];exact tqE
  obtain⟨v,hv⟩:=A9 (xs:=seq) (k:=i);refine Ec (slF Bt 1 (.slice a1 seq.length c1) seq) (B1 hv) ?_;rintro ⟨b1,off1,rfl⟩;have hnx:Gm seq w.site w.use=(w.use- 1 == v):=by rw[hi];exact Ry hv
  refine Ao [] (tqs 0 17<| .op 17 .z) [0,1,2] [] [] [slF Bt 1 (.slice (some ⟨b1,off1,none⟩) seq.length c1) seq] λ_=>?_;refine Ai (λh6=>(absurd hlt tqO)) λh6=>?_;refine⟨_,Cb (z:=w.use- 1) (ho:=I) (hx:=I) (hy:=I) (hr:=I) (hz:=by rw[Ey]<;>omega),?_⟩;refine⟨_,Bb (i:=i) (hz:=hi),?_⟩;refine⟨_,Ce (slF Bt 1 (.slice (some ⟨b1,off1,none⟩) seq.length c1) seq) (Eg hv (j:=0) I),?_⟩;refine A7 (λh7=>?_) λh7=>?_
  ·rw[bad (by rw[hnx,show (w.use- 1 == v)=false by simpa using h7])];exact tqE
  have hne:(w.use- 1 == v)=true:=by simpa using h7
  refine Af (z:=(k+1:Nat)) ?_;exact⟨k+1,⟨tqO,by rw[Dl,hw];simp only[Ih,hallq,C8];simp[hnx,hne]⟩,tqP,Ac⟩
 obtain rfl:k=hs.length:=by omega
 rw[D3] at hallq;rw[hallq] at hZ;rw[hZ];exact tqE
theorem Oc (b:Bool) (e:Int):Cm prog 153 [.bool b,.int .i64 e] [] [] (CL 45 b e):=by
 refine tqm [.o (.v (.bool b)),.o (.v (.int .i64 e))] func153 ntmps153 λ_ _=>?_;cases b
 ·refine B8 (JO tqK I I) ?_;refine EF I I ?_;exact Jn [] I λ_=>⟨.inr ⟨I,I⟩,I⟩
 ·exact Al [] I2 λ_=>⟨.inl ⟨I,I⟩,I⟩
theorem HW (n a b:Int):Cm prog 154 [.int .i64 n,.int .i64 a,.int .i64 b] [] [] (Bd (.bool (inB n a b))):=by
 refine tqm [.o (.v (.int .i64 n)),.o (.v (.int .i64 a)),.o (.v (.int .i64 b))] func154 ntmps154 λ_ _=>?_;repeat' (first|(refine Al [] I2 λ_=>⟨Bx ?_,rfl⟩;first|(simp[inB, *];done)|(rw[Be];simp[inB];omega))|refine Ai (λ_=>?_) λ_=>?_)
theorem FB (n a b:Int):Cm prog 313 [.int .i64 n,.int .i64 a,.int .i64 b] [] [] (Bd (.bool (inB n a b))):=by
 refine tqm [.o (.v (.int .i64 n)),.o (.v (.int .i64 a)),.o (.v (.int .i64 b))] func313 ntmps313 λ_ _=>?_;repeat' (first|(refine Al [] I2 λ_=>⟨Bx ?_,rfl⟩;first|(simp[inB, *];done)|(rw[Be];simp[inB];omega))|refine Ai (λ_=>?_) λ_=>?_)
theorem XG (n:Int):Cm prog 315 [.int .i64 n] [] [] (Bd (.bool (!Lk n))):=by
 refine tqm [.o (.v (.int .i64 n))] func315 ntmps315 λ_ _=>?_;refine tqc I5 (λ_=>FB n 0 1099511627776) ?_;rw[show inB n 0 1099511627776=Lk n from I];exact tqE
def VJ (x:Tok) (p:Sls) (n l s:Int):List Value:=G5 x p++[.int .i64 n,.int .i64 l,.int .i64 s]
theorem VD (n l s:Int) (x:Tok) (p:Sls):Cm prog 275 [.agg (VJ x p n l s).toArray] [] [] (Bd (.bool (Ho x.c))):=by
 obtain⟨age,seq,q,hs,⟨cv,cf,cn⟩⟩:=x;obtain⟨a1,c1,a2,c2,a3,c3⟩:=p;refine tqm [.g [.v (.int .i64 age),.v (.slice a1 seq.length c1),.v (.slice a2 q.length c2),.v (.slice a3 hs.length c3),.v (.int .i64 cv),.v (.int .i64 cf),.v (.int .u64 cn),.v (.int .i64 n),.v (.int .i64 l),.v (.int .i64 s)]] func275 ntmps275 λ_ _=>?_;refine tqc I5 (λ_=>Vd ⟨cv,cf,cn⟩) ?_;dsimp only;unfold S9;cases Ho ⟨cv,cf,cn⟩
 ·exact tqE
 ·exact tqE
theorem MA (n l s:Int) (x:Tok) (p:Sls) (k use:Int) (hk:0<=k) (hu:1<=use/\use<=1099511627776):Cm prog 318 [.agg (VJ x p n l s).toArray,.int .i64 k,.int .i64 use] [] [slF Bt 1 (.slice p.a1 x.seq.length p.c1) x.seq] (Bd (.bool (Gm x.seq k use))):=by
 obtain⟨age,seq,q,hs,⟨cv,cf,cn⟩⟩:=x;obtain⟨a1,c1,a2,c2,a3,c3⟩:=p;dsimp only;refine tqm [.g [.v (.int .i64 age),.v (.slice a1 seq.length c1),.v (.slice a2 q.length c2),.v (.slice a3 hs.length c3),.v (.int .i64 cv),.v (.int .i64 cf),.v (.int .u64 cn),.v (.int .i64 n),.v (.int .i64 l),.v (.int .i64 s)],.o (.v (.int .i64 k)),.o (.v (.int .i64 use))] func318 ntmps318 λ_ _=>?_;refine Ai (λh=>?_) λh=>?_;rotate_left
 ·rw[show Gm seq k use=false by simp[Gm];omega];exact tqE
 obtain⟨i,hi⟩:=S3 hk;obtain⟨v,hv⟩:=A9 (xs:=seq) (k:=i);refine Af (z:=use- 1) (hz:=by rw[Ey]<;>omega) (ho:=I) (hx:=I) (hy:=I) (hr:=I) ?_;refine Dk (slF Bt 1 (.slice a1 seq.length c1) seq) (B1 hv) ?_;rintro ⟨b1,off1,rfl⟩;refine Au (Bb (i:=i) (hz:=hi)) ?_;refine Au (Ce (slF Bt 1 (.slice (some ⟨b1,off1,none⟩) seq.length c1) seq) (Eg hv (j:=0) I)) ?_;rw[show Gm seq k use=(use- 1 == v) by rw[hi];exact Ry hv];exact tqE
theorem Aj8 {F0:List Fact} {g:Nat} {lb:List Value} (hg:Ah tb.fn g=some ()) (p:Int->Bool) {a:Option Addr} {cap:Nat} {xs:List Int} (hlen:xs.length<=1099511627776) (hc:∀x∈xs,Cm prog g (.int .i64 x::lb) [] F0 (Bd (.bool (p x)))):
  Cm prog 334 [.slice a xs.length cap,.func (.func g) #[] lb.toArray] [] (slF Bt 1 (.slice a xs.length cap) xs::F0) (Bd (.int .i64 (Hl p xs))):=by
 refine tqm [.o (.v (.slice a xs.length cap)),.o (.v (.func (.func g) #[] lb.toArray))] func334 ntmps334 λ_ _=>?_;refine Br (γ:=Nat) (λk=>k<=xs.length/\∀(j:Nat) x,j<k->xs[j]? =some x->p x=false) (λk=>[(8,.o (.v (.int .i64 k)))]) (λ_=>[]) (λ_=>[]) (λk=>xs.length- k) 0 ⟨Ax _,λj x hj=>by omega⟩ Ac ?_;rintro k ⟨hk,hno⟩;refine Ai (λh1=>?_) λh1=>?_
 ·obtain⟨x,hx⟩:=A9 (xs:=xs) (k:=k)
  skip
  refine Dk (slF Bt 1 (.slice a xs.length cap) xs) (B1 hx) ?_;rintro ⟨b,off,rfl⟩;refine Au Bb ?_;refine Au (Ce (slF Bt 1 (.slice (some ⟨b,off,none⟩) xs.length cap) xs) (Eg hx (j:=0) I)) ?_;have hc2:∀ρ:Nm,Cm prog g (Gn ρ [] [TV.o (.v (.int .i64 x))] (lb.map PV.v)) [] F0 (Bd (.bool (p x))):=λρ=>by
   have e:Gn ρ [] [TV.o (.v (.int .i64 x))] (lb.map PV.v)=.int .i64 x::lb:=(Qs ρ [TV.o (.v (.int .i64 x))] lb).trans I;rw[e];exact hc x (Av hx)
  refine tqc ⟨I,I,I,I,hg⟩ (λρ=>hc2 ρ) (hF0:=λf hf=>B3 _ hf) ?_;cases hb:p x
  ·refine Af (z:=(k+1:Nat)) ?_;refine⟨k+1,⟨tqO,λj y hj hy=>?_⟩,tqP,Ac⟩;rcases Bg.1 hj with h|rfl
   ·exact hno j y h hy
   ·rw[hx] at hy;cases hy;exact hb
  ·exact Al [] I2 λ_=>⟨by rw[No hno hx hb];rfl,I⟩
 ·obtain rfl:k=xs.length:=by omega
  exact Al [] I2 λ_=>⟨by rw[Mg λj x hj=>hno j x (Aa.1 hj).1 hj];rfl,I⟩
theorem Aj7 {F0:List Fact} {g:Nat} {lb:List Value} (hg:Ah tb.fn g=some ()) (p:Int->Bool) {a:Option Addr} {cap:Nat} {xs:List Int} (hlen:xs.length<=1099511627776) (hc:∀x∈xs,Cm prog g (.int .i64 x::lb) [] F0 (Bd (.bool (p x)))):
  Cm prog 314 [.slice a xs.length cap,.func (.func g) #[] lb.toArray] [] (slF Bt 1 (.slice a xs.length cap) xs::F0) (Bd (.bool (xs.any p))):=by
 refine tqm [.o (.v (.slice a xs.length cap)),.o (.v (.func (.func g) #[] lb.toArray))] func314 ntmps314 λ_ _=>?_;refine tqc I5 (λ_=>Aj8 hg p hlen hc) ?_;exact Al [] I2 λ_=>⟨Bx Hq,I⟩
def NR (n l s:Int) (x:Tok):Bool:=Ef n l s&&((x.seq.length:Int) == n*s)&&Lk x.age&&x.seq.all Lk
theorem Ab9 (n l s:Int) (x:Tok) (p:Sls) (hx:x.seq.length<=1000000):Cm prog 274 [.agg (VJ x p n l s).toArray] [] [slF Bt 1 (.slice p.a1 x.seq.length p.c1) x.seq] (Bd (.bool (NR n l s x))):=by
 obtain⟨age,seq,q,hs,⟨cv,cf,cn⟩⟩:=x;obtain⟨a1,c1,a2,c2,a3,c3⟩:=p;dsimp only at hx;dsimp only;refine tqm [.g [.v (.int .i64 age),.v (.slice a1 seq.length c1),.v (.slice a2 q.length c2),.v (.slice a3 hs.length c3),.v (.int .i64 cv),.v (.int .i64 cf),.v (.int .u64 cn),.v (.int .i64 n),.v (.int .i64 l),.v (.int .i64 s)]] func274 ntmps274 λ_ _=>?_;obtain⟨Z,hZ⟩:∃Z:Bool,Z=NR n l s ⟨age,seq,q,hs,⟨cv,cf,cn⟩⟩:=⟨_,I⟩;rw[<-hZ];unfold NR at hZ;dsimp only at hZ;refine tqc I5 (λ_=>BQ n l s) ?_;unfold Nu;cases hS:Ef n l s
 ·rw[hS] at hZ;rw[show Z=false by rw[hZ];simp];exact tqE
 rw[Sx hS];rw[hS] at hZ;refine A7 (λh1=>?_) λh1=>?_;rotate_left
 ·rw[show Z=false by rw[hZ,show ((seq.length:Int) == n*s)=false by simpa using h1];simp];exact tqE
 rw[show ((seq.length:Int) == n*s)=true by simpa using h1] at hZ;refine tqc I5 (λ_=>FB age 0 1099511627776) ?_;rw[show inB age 0 1099511627776=Lk age from I];cases hA:Lk age
 ·rw[hA] at hZ;rw[show Z=false by rw[hZ];simp];exact tqE
 rw[hA] at hZ;refine tqc I5 (λ_=>Aj7 (F0:=[]) (lb:=[]) (a:=a1) (cap:=c1) (xs:=seq) I (λv=> !Lk v) tqO λx _=>XG x) ?_;rw[show Z= !(seq.any λv=> !Lk v) by rw[hZ];simp[List.any_eq_not_all_not]];generalize (seq.any λv=> !Lk v)=r;exact tqE
theorem Tryz.infoHd:(prog.info? 170).map (λi=>(i.zero,i.size,i.bytes))=some (some (.agg #[.int .i64 0,.int .i64 0,.int .i64 0]),3,24):=tqK
theorem Tryz.infoWt:(prog.info? 167).map (λi=>(i.zero,i.size,i.bytes))=some (some (.agg #[.int .i64 0,.int .i64 0,.int .i64 0,.int .i64 0,.int .i64 0]),5,40):=tqK
theorem Tryz.infoJ:(prog.info? 2).map (λi=>(i.zero,i.size,i.bytes))=some (some (.int .i64 0),1,8):=tqK
theorem Fs {xs:List Hd}:∀u∈xs.flatMap hdL,u.oneCell'=true:=by
 intro u hu;obtain⟨x,_,hx⟩:=Jt.1 hu;simp only[hdL,Ap,Bw,Ed] at hx;rcases hx with rfl|rfl|rfl<;>rfl
theorem Ja {xs:List Wt}:∀u∈xs.flatMap wtL,u.oneCell'=true:=by
 intro u hu;obtain⟨x,_,hx⟩:=Jt.1 hu;simp only[wtL,Ap,Bw,Ed] at hx;rcases hx with rfl|rfl|rfl|rfl|rfl<;>rfl
theorem GQ (w:World) (sv:Value) (xs:List Hd) (hlen:xs.length<=1099511627776) (hS:Sl hdL 3 w sv xs):
  Calls prog 80 #[sv] w λe w'=>∃v,e=.returned v/\w'.ownsRow w.heap.size 170 3 v xs.length (xs.flatMap hdL)/\Below w.heap.size w w':=by
 obtain⟨a,cap,rfl⟩:=hS.shape;obtain⟨i0,hi,hz0,hz1,hz2⟩:=Vn Tryz.infoHd;cases a with
 |none=>
  obtain rfl:=hS.nil_of_none;have heq:=λw'=>Fo (P:=prog) w' 28 170 none 0 cap 0 0 underlying28
  go_enter func80,ntmps80
  go_wp2
  go_ret
  exact⟨_,I,Kc _ _ _ _,Ga _ _⟩
 |some ad=>
  have heq:=λw'=>Fo (P:=prog) w' 28 170 (some ad) xs.length cap 0 0 underlying28;have hnews:=(hS.below (w':=w.alloc (.cells #[] 170)) (by(repeat (first|(with_reducible exact Ga _ _)|(with_reducible assumption)|(with_reducible refine Ti ?_ _)|(with_reducible refine P5 ?_)|((with_reducible refine Tg ?_ ?_ _);rotate_left;focus (first|(with_reducible exact Ak _)|omega|(simp;done)|(simp;omega)))|((with_reducible refine Qk (p:=⟨_,_,_⟩) ?_ ?_ _);rotate_left;focus (first|(with_reducible exact Ak _)|omega|(simp;done)|(simp;omega))))))).news Dd;have hfl:=Qv Dd xs;have Hfl:=Fm hfl;have Hnews:=Fm hnews;clear hfl hnews hS;have hown:=Ml (w:=w) (base:=w.heap.size) (e:=170) (size:=3) #[] 0 (Ak _) tqD I;have Hown:=Fm hown;clear hown
  go_enter func80,ntmps80
  go_wp2_with (at_builtin;refine M7 _ I _ _ 28 I w.heap.size 170 i0 (.agg #[.int .i64 0,.int .i64 0,.int .i64 0]) 3 24 underlying28 hi hz0 hz1 hz2 I tqD _ _ _ I Hown.out ad xs.length cap (xs.flatMap hdL) I Hfl.out Hnews.out Fs (by unfold maxLen;omega) tqO tqS ?_;intro v' w1 hown' hgrow _;have hv':=Fm hown';clear hown')
  go_ret
  refine⟨v',I,by simpa using hv'.out,((Ga _ w).alloc (Ak _) _).grown hgrow tqS λk e=>?_⟩;have e1:w.heap.size=k:=Ij (show some w.heap.size=some k from e);omega
theorem GS (w:World) (sv:Value) (xs:List Wt) (hlen:xs.length<=1099511627776) (hS:Sl wtL 5 w sv xs):
  Calls prog 79 #[sv] w λe w'=>∃v,e=.returned v/\w'.ownsRow w.heap.size 167 5 v xs.length (xs.flatMap wtL)/\Below w.heap.size w w':=by
 obtain⟨a,cap,rfl⟩:=hS.shape;obtain⟨i0,hi,hz0,hz1,hz2⟩:=Vn Tryz.infoWt;cases a with
 |none=>
  obtain rfl:=hS.nil_of_none;have heq:=λw'=>Fo (P:=prog) w' 27 167 none 0 cap 0 0 underlying27
  go_enter func79,ntmps79
  go_wp2
  go_ret
  exact⟨_,I,Kc _ _ _ _,Ga _ _⟩
 |some ad=>
  have heq:=λw'=>Fo (P:=prog) w' 27 167 (some ad) xs.length cap 0 0 underlying27;have hnews:=(hS.below (w':=w.alloc (.cells #[] 167)) (by(repeat (first|(with_reducible exact Ga _ _)|(with_reducible assumption)|(with_reducible refine Ti ?_ _)|(with_reducible refine P5 ?_)|((with_reducible refine Tg ?_ ?_ _);rotate_left;focus (first|(with_reducible exact Ak _)|omega|(simp;done)|(simp;omega)))|((with_reducible refine Qk (p:=⟨_,_,_⟩) ?_ ?_ _);rotate_left;focus (first|(with_reducible exact Ak _)|omega|(simp;done)|(simp;omega))))))).news Ez;have hfl:=Qv Ez xs;have Hfl:=Fm hfl;have Hnews:=Fm hnews;clear hfl hnews hS;have hown:=Ml (w:=w) (base:=w.heap.size) (e:=167) (size:=5) #[] 0 (Ak _) tqD I;have Hown:=Fm hown;clear hown
  go_enter func79,ntmps79
  go_wp2_with (at_builtin;refine M7 _ I _ _ 27 I w.heap.size 167 i0 (.agg #[.int .i64 0,.int .i64 0,.int .i64 0,.int .i64 0,.int .i64 0]) 5 40 underlying27 hi hz0 hz1 hz2 I tqD _ _ _ I Hown.out ad xs.length cap (xs.flatMap wtL) I Hfl.out Hnews.out Ja (by unfold maxLen;omega) tqO tqS ?_;intro v' w1 hown' hgrow _;have hv':=Fm hown';clear hown')
  go_ret
  refine⟨v',I,by simpa using hv'.out,((Ga _ w).alloc (Ak _) _).grown hgrow tqS λk e=>?_⟩;have e1:w.heap.size=k:=Ij (show some w.heap.size=some k from e);omega
theorem JV (w:World) (sv:Value) (xs:List Int) (hlen:xs.length<=1099511627776) (hS:Sl Bt 1 w sv xs):
  Calls prog 78 #[sv] w λe w'=>∃v,e=.returned v/\w'.ownsRow w.heap.size 2 1 v xs.length (xs.flatMap Bt)/\Below w.heap.size w w':=by
 obtain⟨a,cap,rfl⟩:=hS.shape;obtain⟨i0,hi,hz0,hz1,hz2⟩:=Vn Tryz.infoJ;cases a with
 |none=>
  obtain rfl:=hS.nil_of_none;have heq:=λw'=>Fo (P:=prog) w' 26 2 none 0 cap 0 0 underlying26
  go_enter func78,ntmps78
  go_wp2
  go_ret
  exact⟨_,I,Kc _ _ _ _,Ga _ _⟩
 |some ad=>
  have heq:=λw'=>Fo (P:=prog) w' 26 2 (some ad) xs.length cap 0 0 underlying26;have hnews:=(hS.below (w':=w.alloc (.cells #[] 2)) (by(repeat (first|(with_reducible exact Ga _ _)|(with_reducible assumption)|(with_reducible refine Ti ?_ _)|(with_reducible refine P5 ?_)|((with_reducible refine Tg ?_ ?_ _);rotate_left;focus (first|(with_reducible exact Ak _)|omega|(simp;done)|(simp;omega)))|((with_reducible refine Qk (p:=⟨_,_,_⟩) ?_ ?_ _);rotate_left;focus (first|(with_reducible exact Ak _)|omega|(simp;done)|(simp;omega))))))).news RU;have hfl:=Qv RU xs;have Hfl:=Fm hfl;have Hnews:=Fm hnews;clear hfl hnews hS;have hown:=Ml (w:=w) (base:=w.heap.size) (e:=2) (size:=1) #[] 0 (Ak _) tqD I;have Hown:=Fm hown;clear hown
  go_enter func78,ntmps78
  go_wp2_with (at_builtin;refine M7 _ I _ _ 26 I w.heap.size 2 i0 (.int .i64 0) 1 8 underlying26 hi hz0 hz1 hz2 I tqD _ _ _ I Hown.out ad xs.length cap (xs.flatMap Bt) I Hfl.out Hnews.out Agm (by unfold maxLen;omega) tqO tqS ?_;intro v' w1 hown' hgrow _;have hv':=Fm hown';clear hown')
  go_ret
  refine⟨v',I,by simpa using hv'.out,((Ga _ w).alloc (Ak _) _).grown hgrow tqS λk e=>?_⟩;have e1:w.heap.size=k:=Ij (show some w.heap.size=some k from e);omega
theorem Sh (a:Option Addr) (cap:Nat) (xs:List Hd) (hlen:xs.length<=1099511627776):Co prog 80 [.slice a xs.length cap] [slF hdL 3 (.slice a xs.length cap) xs] id 170 3 xs.length (xs.flatMap hdL):=
 λ_ w hA hF=>GQ w _ xs hlen (Qp (hF _ (Bc.2 I)) hA)
theorem Vc (a:Option Addr) (cap:Nat) (xs:List Wt) (hlen:xs.length<=1099511627776):Co prog 79 [.slice a xs.length cap] [slF wtL 5 (.slice a xs.length cap) xs] id 167 5 xs.length (xs.flatMap wtL):=
 λ_ w hA hF=>GS w _ xs hlen (Qp (hF _ (Bc.2 I)) hA)
theorem OF (a:Option Addr) (cap:Nat) (xs:List Int) (hlen:xs.length<=1099511627776):Co prog 78 [.slice a xs.length cap] [slF Bt 1 (.slice a xs.length cap) xs] id 2 1 xs.length (xs.flatMap Bt):=
 λ_ w hA hF=>JV w _ xs hlen (Qp (hF _ (Bc.2 I)) hA)
def hdA (x:Hd):List Value:=[.agg (hdL x).toArray]
theorem Aio (a:Option Addr) (cap:Nat) (xs:List Hd) (b:Nat) (hl:xs.length<=1000000):Y2 prog 352 [.pointer (some ⟨b,0,none⟩)] [B9 b [.slice a xs.length cap] 28,slF hdL 3 (.slice a xs.length cap) xs] hdA xs:=by
 refine Xs (tab:=tb) (ok:=R8) [.o (.v (.pointer (some ⟨b,0,none⟩)))] func352 ntmps352 I I (λ_=>I) ?_;intro S;refine Au (Ce (S.inF (B9 b [.slice a xs.length cap] 28)) λA w h=>L9 (o:=0) I _ w h.2) ?_;refine Rj (γ:=Nat) (λk=>k<=xs.length) (λk=>[(7,.o (.v (.int .i64 k)))]) (λ_=>[]) (λk=>[S.jF k,S.inF (slF hdL 3 (.slice a xs.length cap) xs)]) (λk=>xs.length- k) 0 (Ax _) (Ac (hM:=by simp[It.X])) ?_;intro k hk;refine Ai (λh1=>?_) λh1=>?_
 ·obtain⟨x,hx⟩:=A9 (xs:=xs) (k:=k);refine Dk (S.inF (slF hdL 3 (.slice a xs.length cap) xs)) (λA w h=>B1 hx _ w h.2) ?_;rintro ⟨b1,off,rfl⟩;refine Au Bb ?_;refine Au (Cu (vs:=hdL x) (S.inF (slF hdL 3 (.slice (some ⟨b1,off,none⟩) xs.length cap) xs)) λA w h=>Du hx _ w h.2) ?_;refine Rz k [slF hdL 3 (.slice (some ⟨b1,off,none⟩) xs.length cap) xs] I I I I hx (λ_=>I) tqS tqS ?_ ?_
  ·refine Af (z:=(k+1:Nat)) ?_;exact⟨k+1,tqO,tqP,Ac (hM:=by simp[It.X])⟩
  ·exact Px (k+1) tqS tqO tqO I I
 ·obtain rfl:k=xs.length:=by omega
  exact Og tqS I I
def JK (q:List Wt) (x:Wt):Gx:=λe _ F1=>
 if (D5 q&&wtB x)=false then e=.returned (.tuple #[.slice none 0 0,.int .i64 2])/\F1=[]
 else if Vj q x.site=true then e=.returned (.tuple #[.slice none 0 0,.int .i64 220])/\F1=[]
 else ∃a c,e=.returned (.tuple #[.slice a (q.length+1) c,.int .i64 0])/\F1=[slF wtL 5 (.slice a (q.length+1) c) (q++[x])]
theorem Afu (a:Option Addr) (cap:Nat) (q:List Wt) (x:Wt) (hl:q.length<=1000000):Cm prog 228 [.slice a q.length cap,.agg (wtL x).toArray] [] [slF wtL 5 (.slice a q.length cap) q] (JK q x):=by
 refine tqm [.o (.v (.slice a q.length cap)),.g [.v (.int .i64 x.site),.v (.int .i64 x.use),.v (.int .i64 x.mode),.v (.int .i64 x.prio),.v (.int .i64 x.age)]] func228 ntmps228 λ_ _=>?_;refine Vb 0 I I ?_;refine tqc I5 (λ_=>DC a cap q x.site hl) ?_;refine tqc I5 (λ_=>Q0 a cap q) ?_;unfold JK;cases hW:D5 q
 ·refine⟨I,?_⟩;exact Al [] I2 λ_=>by rw[Bi tqS];exact⟨I,I⟩
 refine tqc I5 (λ_=>FG x 0) ?_;cases hM:wtB x
 ·refine⟨I,?_⟩;exact Al [] I2 λ_=>by rw[Bi tqS];exact⟨I,I⟩
 cases hF:Vj q x.site;rotate_left
 ·refine⟨I,?_⟩;exact Al [] I2 λ_=>by rw[Ar tqS,Bi I];exact⟨I,I⟩
 have hfl:q.flatMap wtL++wtL x=(q++[x]).flatMap wtL:=by simp
 refine Ao [1,3,4] (.op 0<|.op 2<|.alt (.op 1<| .op 3<|.op 4<|.op 5<| .op 6 .z) (.op 3<| .op 1<| .op 4<|.op 5<| .op 6 .z)) [0] [] [] [slF wtL 5 (.slice a q.length cap) q] λ_=>?_;refine⟨?_,?_⟩
 ·refine Ik I5 (λ_=>I) (Vc a cap q tqO) ?_;intro a1 c1;refine tqQ<|tqQ<|Dq 1 (m':=1) (news:=wtL x) I I I I I I I I I tqD I I I (Uq (news:=wtL x) I I) I (by simp[wtL,Value.oneCell']) tqO tqM ?_;intro a2 c2;refine tqQ<|Dj (D8 (j:=1) (v:=.slice a2 (q.length+1) c2) (m:=q.length+1) (enc:=wtL) (xs:=q++[x]) (.inl I) Ez tqS (by rw[<-hfl];rfl)) ?_;exact Al [slF wtL 5 (.slice a2 (q.length+1) c2) (q++[x])] I2 λ_=>by rw[Ar tqS,Ar tqS];exact⟨_,_,I,I⟩
 ·refine tqQ<|Ik I5 (λ_=>I) (Vc a cap q tqO) ?_;intro a1 c1;refine tqQ<|Dq 2 (m':=1) (news:=wtL x) I I I I I I I I I tqD I I I (Uq (news:=wtL x) I I) I (by simp[wtL,Value.oneCell']) tqO tqM ?_;intro a2 c2;refine tqQ<|Dj (D8 (j:=2) (v:=.slice a2 (q.length+1) c2) (m:=q.length+1) (enc:=wtL) (xs:=q++[x]) (.inl I) Ez tqS (by rw[<-hfl];rfl)) ?_;exact Al [slF wtL 5 (.slice a2 (q.length+1) c2) (q++[x])] I2 λ_=>by rw[Ar tqS,Ar tqS];exact⟨_,_,I,I⟩
theorem Alr {X:Fx} {o:Oper} {T:TE} {L:LE} {F:List Fact} {t t2:TypeId} {x y:Operand} {n:Nat} (ho:o.op=.binOp .shr t x y t2) (hx:evS T x=some (.o (.v (.int .u64 n)))) (hy:evS T y=some (.o (.v (.int .u64 1)))):Yd X o T L F (.o (.v (.int .u64 ((n / 2:Nat):Int)))):=by
 refine Pb (u:=.int .u64 n) (v:=.int .u64 1) ho hx hy (λ_=>I) (λ_=>I) (λw=>I) λw=>?_;have e:min 1 IntKind.u64.bits=1:=I;simp[binOp,Op.shift,e,Int.fdiv_eq_ediv]
theorem RC (x y:Hd):Cm prog 252 [.agg (hdL x).toArray,.agg (hdL y).toArray] [] [] (Bd (.int .i64 (Kv x.site y.site))):=by
 refine tqm [.g [.v (.int .i64 x.site),.v (.int .i64 x.use),.v (.int .i64 x.mode)],.g [.v (.int .i64 y.site),.v (.int .i64 y.use),.v (.int .i64 y.mode)]] func252 ntmps252 λ_ _=>?_;refine tqc I5 (λ_=>GX x y) ?_;exact tqE
theorem Ane {n:Int} (h1:0<=n) (h2:n<=9223372036854775807):IntKind.u64.wrap n=n:=by
 simp only[IntKind.wrap,IntKind.bits,IntKind.signed];simp;omega
def bsX (xs:List Hd) (x:Hd):Gx:=λe _ F1=>∃(i:Nat) (b:Bool),(i<=xs.length/\(∀(j:Nat) y,j<i->xs[j]? =some y->y.site<x.site)/\(∀(j:Nat) y,i<=j->xs[j]? =some y->x.site<=y.site))/\e=.returned (.tuple #[.int .i64 i,.bool b])/\F1=[]
theorem YK {xs:List Hd} (h:W9 xs=true) {i j:Nat} {x y:Hd} (hij:i<=j) (hx:xs[i]? =some x) (hy:xs[j]? =some y):x.site<=y.site:=by
 rcases Nat.lt_or_eq_of_le hij with hlt|rfl
 ·simp only[W9,Aq] at h;obtain⟨h1,e1⟩:=Aa.1 hx;obtain⟨h2,e2⟩:=Aa.1 hy;have:=Ds.1 h i j h1 h2 hlt;rw[e1,e2] at this;omega
 ·rw[hx] at hy;cases hy;exact Int.le_refl _
theorem RL {a b:Int}:Kv a b<0↔a<b:=by
 unfold Kv;split
 ·omega
 ·split<;>omega
theorem Ah4 (a:Option Addr) (cap:Nat) (xs:List Hd) (x:Hd) (hl:xs.length<=1000000) (hr:W9 xs=true):Cm prog 251 [.slice a xs.length cap,.agg (hdL x).toArray,.func (.func 252) #[] #[]] [] [slF hdL 3 (.slice a xs.length cap) xs] (bsX xs x):=by
 refine tqm [.o (.v (.slice a xs.length cap)),.g [.v (.int .i64 x.site),.v (.int .i64 x.use),.v (.int .i64 x.mode)],.o (.v (.func (.func 252) #[] #[]))] func251 ntmps251 λ_ _=>?_;refine Br (γ:=Nat×Nat) (λg=>g.1<=g.2/\g.2<=xs.length/\(∀(j:Nat) y,j<g.1->xs[j]? =some y->y.site<x.site)/\(∀(j:Nat) y,g.2<=j->xs[j]? =some y->x.site<=y.site)) (λg=>[(9,.o (.v (.int .i64 g.1))),(10,.o (.v (.int .i64 g.2)))]) (λ_=>[]) (λ_=>[]) (λg=>g.2- g.1) (0,xs.length) ⟨Ax _,Ak _,λj y hj=>by omega,λj y hj hy=>by have:=(Aa.1 hy).1;omega⟩ Ac ?_;rintro ⟨i,j⟩ ⟨hij,hj,hlo,hhi⟩;dsimp only at hij hj hlo hhi;refine Ai (λh1=>?_) λh1=>?_;rotate_left
 ·obtain rfl:i=j:=by dsimp only at h1;omega
  have res:i<=xs.length/\(∀(j:Nat) y,j<i->xs[j]? =some y->y.site<x.site)/\(∀(j:Nat) y,i<=j->xs[j]? =some y->x.site<=y.site):=⟨hj,hlo,hhi⟩;by_cases hn:i<xs.length;rotate_left
  ·refine Ao [11] (tqs 0 15<| .op 15 .z) [0] [] [] [] λ_=>?_;refine Ai (λh2=>?_) λh2=>?_
   ·exact absurd h2 (by dsimp only;omega)
   exact Al [] I2 λ_=>⟨i,_,res,I,I⟩
  obtain⟨y,hy⟩:=A9 (xs:=xs) (k:=i) (h:=hn);refine Ec (slF hdL 3 (.slice a xs.length cap) xs) (B1 hy) ?_;rintro ⟨b,off,rfl⟩;refine Ao [11] (tqs 0 15<| .op 15 .z) [0] [] [] [slF hdL 3 (.slice (some ⟨b,off,none⟩) xs.length cap) xs] λ_=>?_;refine Ai (λh2=>?_) λh2=>?_;rotate_left
  ·exact absurd h2 (by dsimp only;omega)
  refine⟨_,Bb (i:=i),?_⟩;refine⟨_,Cu (vs:=hdL y) (slF hdL 3 (.slice (some ⟨b,off,none⟩) xs.length cap) xs) (Du hy),?_⟩;refine tqc I5 (λ_=>RC y x) ?_;exact tqQ<|Al [] I2 λ_=>⟨i,_,res,I,I⟩
 have h1:i<j:=by dsimp only at h1;omega
 refine Af (z:=((i+j:Nat):Int)) (hz:=by rw[Ey]<;>omega) (ho:=I) (hx:=I) (hy:=I) (hr:=I) ?_;refine Mb (S2 (r:=((i+j:Nat):Int)) I I (Ane tqO tqO) I I) ?_;refine Mb (Alr I I I) ?_;refine Mb (S2 (r:=(((i+j) / 2:Nat):Int)) I I (Ey tqO tqO) I I) ?_;obtain⟨h,hh⟩:∃h,h=(i+j) / 2:=⟨_,I⟩;rw[<-hh];obtain⟨y,hy⟩:=A9 (xs:=xs) (k:=h);refine Ec (slF hdL 3 (.slice a xs.length cap) xs) (B1 hy) ?_;rintro ⟨b,off,rfl⟩;refine Ao [6] (tqs 0 7<| .op 7 .z) [0] [] [] [slF hdL 3 (.slice (some ⟨b,off,none⟩) xs.length cap) xs] λ_=>?_;refine⟨_,Bb (i:=h),?_⟩;refine⟨_,Cu (vs:=hdL y) (slF hdL 3 (.slice (some ⟨b,off,none⟩) xs.length cap) xs) (Du hy),?_⟩;refine tqc I5 (λ_=>RC y x) ?_;refine tqQ<|Ai (λh2=>?_) λh2=>?_
 ·rw[RL] at h2;refine Af (z:=((h+1:Nat):Int)) ?_;exact⟨(h+1,j),⟨tqP,hj,λq z hq hz=>Int.lt_of_le_of_lt (YK hr (show q<=h by dsimp only at hq;omega) hz hy) h2,hhi⟩,tqP,Ac⟩
 ·rw[RL] at h2;exact⟨(i,h),⟨tqP,tqP,hlo,λq z hq hz=>Int.le_trans tqO (YK hr (show h<=q from hq) hy hz)⟩,tqP,Ac⟩
deriving instance DecidableEq for Sta
deriving instance DecidableEq for Slt
theorem FQ:Mf prog 9 74=some [4,0,4,4]:=tqK
theorem QX:Ui prog 74=true:=tqK
theorem KI (x y:Sta):Il [4,0,4,4] (Bv x) (Bv y)=some (decide (x=y)):=by
 obtain⟨a,b,c,p⟩:=x;obtain⟨d,e,f,r⟩:=y;have h:Il [4,0,4,4] (Bv ⟨a,b,c,p⟩) (Bv ⟨d,e,f,r⟩)=some (a == d&&(b == e&&(c == f&&(p == r&&true)))):=I;rw[h]
 congr 1
 rw[Be];simp
theorem Ajv:Mf prog 9 88=some [4,4,4,4,4,4,4,8]:=tqK
theorem An8:Ui prog 88=true:=tqK
theorem Al8 (x y:Slt):Il [4,4,4,4,4,4,4,8] (Bm x) (Bm y)=some (decide (x=y)):=by
 obtain⟨a,b,c,p,q,⟨u,v,w⟩⟩:=x;obtain⟨d,e,f,r,s,⟨u',v',w'⟩⟩:=y;have h:Il [4,4,4,4,4,4,4,8] (Bm ⟨a,b,c,p,q,⟨u,v,w⟩⟩) (Bm ⟨d,e,f,r,s,⟨u',v',w'⟩⟩)=some (a == d&&(b == e&&(c == f&&(p == r&&(q == s&&(u == u'&&(v == v'&&(w == w'&&true)))))))):=I;rw[h]
 congr 1
 rw[Be];simp
theorem UL (a a2:Option Addr) (cap cap2:Nat) (xs ys:List Sta) (hl:xs.length<=1000000) (hl2:ys.length<=1000000):Cm prog 43 [.slice a xs.length cap,.slice a2 ys.length cap2] [] [slF Bv 4 (.slice a xs.length cap) xs,slF Bv 4 (.slice a2 ys.length cap2) ys] (Bd (.bool (decide (xs=ys)))):=by
 refine tqm [.o (.v (.slice a xs.length cap)),.o (.v (.slice a2 ys.length cap2))] func43 ntmps43 λ_ _=>?_;refine A7 (λh0=>?_) λh0=>?_
 ·have e:decide (xs=ys)=false:=by simp at h0;simp;rintro rfl;exact h0 I
  rw[e];exact tqE
 have hlen:xs.length=ys.length:=by simp at h0;omega
 refine Br (γ:=Nat) (λk=>k<=xs.length/\∀j,j<k->xs[j]? =ys[j]?) (λk=>[(5,.o (.v (.int .i64 k)))]) (λ_=>[]) (λ_=>[]) (λk=>xs.length- k) 0 ⟨Ax _,λj hj=>by omega⟩ Ac ?_;rintro k ⟨hk,heq⟩;refine Ai (λh1=>?_) λh1=>?_;rotate_left
 ·have e:decide (xs=ys)=true:=by
   simp only[Aq];refine F6 λj=>?_;by_cases hj:j<k
   ·exact heq j hj
   ·rw[Cg tqO,Cg tqO]
  rw[e];exact tqE
 obtain⟨x,hx⟩:=A9 (xs:=xs) (k:=k);obtain⟨y,hy⟩:=A9 (xs:=ys) (k:=k);refine Ec (slF Bv 4 (.slice a xs.length cap) xs) (B1 hx) ?_;rintro ⟨b,off,rfl⟩;refine Ec (slF Bv 4 (.slice a2 ys.length cap2) ys) (B1 hy) ?_;rintro ⟨b2,off2,rfl⟩;refine Ao [] (tqs 0 8<| .op 8 .z) [] [] [] [slF Bv 4 (.slice (some ⟨b,off,none⟩) xs.length cap) xs,slF Bv 4 (.slice (some ⟨b2,off2,none⟩) ys.length cap2) ys] λ_=>?_;refine⟨_,Bb (i:=k),?_⟩;refine⟨_,Cu (vs:=Bv x) (slF Bv 4 (.slice (some ⟨b,off,none⟩) xs.length cap) xs) (Du hx),?_⟩;refine⟨_,Bb (i:=k),?_⟩;refine⟨_,Cu (vs:=Bv y) (slF Bv 4 (.slice (some ⟨b2,off2,none⟩) ys.length cap2) ys) (Du hy),?_⟩;refine⟨_,Ny (xs:=Bv x) (ys:=Bv y) (r:=decide (x=y)) (ks:=[4,0,4,4]) FQ QX I I I (λ_=>I) (λ_=>I) (KI x y),?_⟩;by_cases hxy:x=y
 ·rw[show decide (x=y)=true by simpa using hxy];refine Af (z:=(k+1:Nat)) ?_;refine⟨k+1,⟨tqO,λj hj=>?_⟩,tqP,Ac⟩;rcases Bg.1 hj with h|rfl
  ·exact heq j h
  ·rw[hx,hy,hxy]
 ·rw[show decide (x=y)=false by simpa using hxy,show decide (xs=ys)=false by simpa using Ye hx hy hxy];exact tqE
theorem UK (a a2:Option Addr) (cap cap2:Nat) (xs ys:List Slt) (hl:xs.length<=1000000) (hl2:ys.length<=1000000):Cm prog 44 [.slice a xs.length cap,.slice a2 ys.length cap2] [] [slF Bm 8 (.slice a xs.length cap) xs,slF Bm 8 (.slice a2 ys.length cap2) ys] (Bd (.bool (decide (xs=ys)))):=by
 refine tqm [.o (.v (.slice a xs.length cap)),.o (.v (.slice a2 ys.length cap2))] func44 ntmps44 λ_ _=>?_;refine A7 (λh0=>?_) λh0=>?_
 ·have e:decide (xs=ys)=false:=by simp at h0;simp;rintro rfl;exact h0 I
  rw[e];exact tqE
 have hlen:xs.length=ys.length:=by simp at h0;omega
 refine Br (γ:=Nat) (λk=>k<=xs.length/\∀j,j<k->xs[j]? =ys[j]?) (λk=>[(5,.o (.v (.int .i64 k)))]) (λ_=>[]) (λ_=>[]) (λk=>xs.length- k) 0 ⟨Ax _,λj hj=>by omega⟩ Ac ?_;rintro k ⟨hk,heq⟩;refine Ai (λh1=>?_) λh1=>?_;rotate_left
 ·have e:decide (xs=ys)=true:=by
   simp only[Aq];refine F6 λj=>?_;by_cases hj:j<k
   ·exact heq j hj
   ·rw[Cg tqO,Cg tqO]
  rw[e];exact tqE
 obtain⟨x,hx⟩:=A9 (xs:=xs) (k:=k);obtain⟨y,hy⟩:=A9 (xs:=ys) (k:=k);refine Ec (slF Bm 8 (.slice a xs.length cap) xs) (B1 hx) ?_;rintro ⟨b,off,rfl⟩;refine Ec (slF Bm 8 (.slice a2 ys.length cap2) ys) (B1 hy) ?_;rintro ⟨b2,off2,rfl⟩;refine Ao [] (tqs 0 8<| .op 8 .z) [] [] [] [slF Bm 8 (.slice (some ⟨b,off,none⟩) xs.length cap) xs,slF Bm 8 (.slice (some ⟨b2,off2,none⟩) ys.length cap2) ys] λ_=>?_;refine⟨_,Bb (i:=k),?_⟩;refine⟨_,Cu (vs:=Bm x) (slF Bm 8 (.slice (some ⟨b,off,none⟩) xs.length cap) xs) (Du hx),?_⟩;refine⟨_,Bb (i:=k),?_⟩;refine⟨_,Cu (vs:=Bm y) (slF Bm 8 (.slice (some ⟨b2,off2,none⟩) ys.length cap2) ys) (Du hy),?_⟩;refine⟨_,Ny (xs:=Bm x) (ys:=Bm y) (r:=decide (x=y)) (ks:=[4,4,4,4,4,4,4,8]) Ajv An8 I I I (λ_=>I) (λ_=>I) (Al8 x y),?_⟩;by_cases hxy:x=y
 ·rw[show decide (x=y)=true by simpa using hxy];refine Af (z:=(k+1:Nat)) ?_;refine⟨k+1,⟨tqO,λj hj=>?_⟩,tqP,Ac⟩;rcases Bg.1 hj with h|rfl
  ·exact heq j h
  ·rw[hx,hy,hxy]
 ·rw[show decide (x=y)=false by simpa using hxy,show decide (xs=ys)=false by simpa using Ye hx hy hxy];exact tqE
structure Try where
 sent:Int
 heard:Int
 over:Int
 deriving DecidableEq
def Bz (x:Try):List Value:=[.int .i64 x.sent,.int .i64 x.heard,.int .i64 x.over]
theorem Fh:∀x,(Bz x).length=3:=λ_=>I
theorem Ajw:Mf prog 9 104=some [4,4,4]:=tqK
theorem An9:Ui prog 104=true:=tqK
theorem Al9 (x y:Try):Il [4,4,4] (Bz x) (Bz y)=some (decide (x=y)):=by
 obtain⟨a,b,c⟩:=x;obtain⟨d,e,f⟩:=y;have h:Il [4,4,4] (Bz ⟨a,b,c⟩) (Bz ⟨d,e,f⟩)=some (a == d&&(b == e&&(c == f&&true))):=I;rw[h]
 congr 1
 rw[Be];simp
theorem UM (a a2:Option Addr) (cap cap2:Nat) (xs ys:List Try) (hl:xs.length<=1000000) (hl2:ys.length<=1000000):Cm prog 45 [.slice a xs.length cap,.slice a2 ys.length cap2] [] [slF Bz 3 (.slice a xs.length cap) xs,slF Bz 3 (.slice a2 ys.length cap2) ys] (Bd (.bool (decide (xs=ys)))):=by
 refine tqm [.o (.v (.slice a xs.length cap)),.o (.v (.slice a2 ys.length cap2))] func45 ntmps45 λ_ _=>?_;refine A7 (λh0=>?_) λh0=>?_
 ·have e:decide (xs=ys)=false:=by simp at h0;simp;rintro rfl;exact h0 I
  rw[e];exact tqE
 have hlen:xs.length=ys.length:=by simp at h0;omega
 refine Br (γ:=Nat) (λk=>k<=xs.length/\∀j,j<k->xs[j]? =ys[j]?) (λk=>[(5,.o (.v (.int .i64 k)))]) (λ_=>[]) (λ_=>[]) (λk=>xs.length- k) 0 ⟨Ax _,λj hj=>by omega⟩ Ac ?_;rintro k ⟨hk,heq⟩;refine Ai (λh1=>?_) λh1=>?_;rotate_left
 ·have e:decide (xs=ys)=true:=by
   simp only[Aq];refine F6 λj=>?_;by_cases hj:j<k
   ·exact heq j hj
   ·rw[Cg tqO,Cg tqO]
  rw[e];exact tqE
 obtain⟨x,hx⟩:=A9 (xs:=xs) (k:=k);obtain⟨y,hy⟩:=A9 (xs:=ys) (k:=k);refine Ec (slF Bz 3 (.slice a xs.length cap) xs) (B1 hx) ?_;rintro ⟨b,off,rfl⟩;refine Ec (slF Bz 3 (.slice a2 ys.length cap2) ys) (B1 hy) ?_;rintro ⟨b2,off2,rfl⟩;refine Ao [] (tqs 0 8<| .op 8 .z) [] [] [] [slF Bz 3 (.slice (some ⟨b,off,none⟩) xs.length cap) xs,slF Bz 3 (.slice (some ⟨b2,off2,none⟩) ys.length cap2) ys] λ_=>?_;refine⟨_,Bb (i:=k),?_⟩;refine⟨_,Cu (vs:=Bz x) (slF Bz 3 (.slice (some ⟨b,off,none⟩) xs.length cap) xs) (Du hx),?_⟩;refine⟨_,Bb (i:=k),?_⟩;refine⟨_,Cu (vs:=Bz y) (slF Bz 3 (.slice (some ⟨b2,off2,none⟩) ys.length cap2) ys) (Du hy),?_⟩;refine⟨_,Ny (xs:=Bz x) (ys:=Bz y) (r:=decide (x=y)) (ks:=[4,4,4]) Ajw An9 I I I (λ_=>I) (λ_=>I) (Al9 x y),?_⟩;by_cases hxy:x=y
 ·rw[show decide (x=y)=true by simpa using hxy];refine Af (z:=(k+1:Nat)) ?_;refine⟨k+1,⟨tqO,λj hj=>?_⟩,tqP,Ac⟩;rcases Bg.1 hj with h|rfl
  ·exact heq j h
  ·rw[hx,hy,hxy]
 ·rw[show decide (x=y)=false by simpa using hxy,show decide (xs=ys)=false by simpa using Ye hx hy hxy];exact tqE
def Qb (hs:List Value) (e:TypeId):Obj:=.cells hs.toArray e (0,0)
section
variable {X:Fx} {o:Oper} {T:TE} {L:LE} {n:Nat} {F:List Fact} {D:DF} {K:KK} {k:KS} {c:Code}
variable {a:Option Addr} {cap:Nat} {cells:List Value} {e:TypeId} {m sz:Nat}
theorem Rel.raw {j:Nat} {ac:Act} {w:World} (hr:Rel X T L n F D ac w) (hj:Ah L j=some (.own (.slice a m cap) e sz m cells)) (hm:0<m):
  ∃g hs,a=some ⟨g,0,none⟩/\hs.length=cap*sz/\hs.take (m*sz)=cells/\m<=cap/\cap<=maxLen/\Rel X T ((j,.ob g (Qb hs e))::L) n F D ac w:=by
 obtain⟨A,ρ,h0⟩:=hr.one;obtain⟨g,cur,e1,h3,h4,h5,h6,h7,h8⟩:=Vp (h0.lo j _ hj) hm;refine⟨g,cur.toList,e1,by simpa using h6,h7,h4,h5,hr.reL λk e' hk=>?_⟩;rw[As] at hk;split at hk
 ·rename_i ek;cases hk;subst ek;refine⟨_,hj,λ_=>by rw[e1];rfl,λρ _=>?_⟩;show w.heap[g]? =some (Qb cur.toList e)
  rw[h3];simp[Qb]
 ·exact⟨e',hk,λ_=>I,λ_ h=>h⟩
theorem BK (j:Nat) (hj:Ah L j=some (.own (.slice a m cap) e sz m cells)) (hm:0<m)
  (h:∀g hs,a=some ⟨g,0,none⟩->hs.length=cap*sz->hs.take (m*sz)=cells->m<=cap->cap<=maxLen->OJs X o T ((j,.ob g (Qb hs e))::L) n F D k K):OJs X o T L n F D k K:=by
 intro Q hQ Φ hΦ ac w hr;obtain⟨g,hs,h1,h2,h3,h4,h5,h6⟩:=hr.raw hj hm;exact h g hs h1 h2 h3 h4 h5 Q hQ Φ hΦ ac w h6
variable {g:Nat} {hs:List Value}
theorem Ow {j:Nat} (hj:Ah L j=some (.ob g (Qb hs e))) (hm:m<=cap) (hc:cap<=maxLen) (hl:hs.length=cap*sz) (ht:hs.take (m*sz)=cells):
  Wk X T L n F D ⟨T,(j,.own (.slice (some ⟨g,0,none⟩) m cap) e sz m cells)::L,n,F,D⟩:=λ_ w hr=>
 hr.reL λk e' hk=>by
  rw[As] at hk;split at hk
  ·rename_i ek;cases hk;subst ek;refine⟨_,hj,λ_=>I,λρ h=>?_⟩;have hmm:m*sz<=cap*sz:=D0 _ hm;have h3:w.heap[g]? =some (Qb hs e):=h;refine⟨by rw[<-ht,Am,hl];omega,.inr ⟨g,cap,hs.toArray,I,Ax _,h3,hm,hc,by simpa using hl,by simpa using ht⟩⟩
  ·exact⟨e',hk,λ_=>I,λ_ h=>h⟩
theorem IU {a:Act} {w:World} {u:TV} {Φ:Act->World->Prop} (hΦ:∀T' L' n' F' D',k T' L' n' F' D'->∀a w,Rel X T' L' n' F' D' a w->Φ a w) (h:R1 X o T L n F D k u) (hr:Rel X T L n F D a w) {v:Value} (hv:∀ρ,v=u.den ρ):Φ (a.put o.dst v) w:=by
 unfold R1 at h;split at h
 ·rename_i T' hp;exact hΦ _ _ _ _ _ h _ w (hr.put (λ_ ρ _=>hv ρ) hp)
 ·exact h.elim
variable {news:List Value} {q:Nat}
theorem CZ {src:Operand} {off m' c':Nat} (hsrc:evS T src=some (.o (.v (.slice (some ⟨g,off,none⟩) m' c')))) (hq:Ah L q=some (.ob g (Qb hs e))) (hn:(hs.drop off).take news.length=news):∀A ρ a w,Vw T L F A ρ a w->(∀b,A b->b<w.heap.size)->(∃ad c l,a.eval src=.slice (some ad) l c/\l=m'/\∀j u,news[j]? =some u->w.cell? (ad.add j)=some u):=by
 intro A ρ a w h0 _;refine⟨⟨g,off,none⟩,c',m',h0.ev hsrc,I,λj u hu=>?_⟩;have h1:w.heap[g]? =some (.cells hs.toArray e (0,0)):=h0.lo q _ hq;rw[H5,Iu h1];have hl:=(Aa.1 hu).1;rw[<-hn,Db hl,E3] at hu;exact hu
theorem Ao2 {src:Operand} {m':Nat} (hsrc:evS T src=some (.o (.s q 0 m' m'))) (hq:Ah L q=some (.c (news.map SV.v) e)):∀A ρ a w,Vw T L F A ρ a w->(∀b,A b->b<w.heap.size)->(∃ad c l,a.eval src=.slice (some ad) l c/\l=m'/\∀j u,news[j]? =some u->w.cell? (ad.add j)=some u):=by
 intro A ρ a w h0 _;refine⟨⟨ρ q,0,none⟩,m',m',h0.ev hsrc,I,λj u hu=>?_⟩;have h1:=h0.lo q _ hq;simp only[LC.holds,Ji] at h1;rw[H5,Iu h1];simpa using hu
theorem Rel.rawSet {ac:Act} {w:World} {j:Nat} {hs':List Value} (hr:Rel X T L n F D ac w) (hj:Ah L j=some (.ob g (Qb hs e))):Rel X T ((j,.ob g (Qb hs' e))::L) n F D ac (w.setRow g hs'.toArray):=by
 obtain⟨A,ρ,h0⟩:=hr.one;have h1:w.heap[g]? =some (.cells hs.toArray e (0,0)):=h0.lo j _ hj;exact hr.ob hj (Qy w _ _ _ _ _ h1) ⟨I,I,I,by rw[Nf];exact Ak _,λb _ hn=>Pr w _ _ _ λe=>hn (by rw[e])⟩
variable {t:TypeId} {x y:Operand}
theorem Oo {cl:Call} {t' e':TypeId} (j:Nat) {off dl dc sl:Nat} (hj:Ah L j=some (.ob g (Qb hs e'))) (ho:o.op=.call cl) (hcl:cl.callee=.builtin .copy) (hargs:cl.args.toList=[x,y]) (htys:cl.argTypes.toList=[t,t'])
  (hx:evS T x=some (.o (.v (.slice (some ⟨g,off,none⟩) dl dc)))) (hel:Ah X.tab.el t=some (e,sz))
  (hsrc:∀A ρ a w,Vw T L F A ρ a w->(∀b,A b->b<w.heap.size)->(∃ad c l,a.eval y=.slice (some ad) l c/\l=sl/\∀j u,news[j]? =some u->w.cell? (ad.add j)=some u)) (hm:Nat.min sl dl=m) (hn:news.length=m*sz) (hfit:off+news.length<=hs.length) (h1:∀v∈news,v.oneCell'=true)
  (h:R1 X o T ((j,.ob g (Qb (hs.take off++news++hs.drop (off+news.length)) e'))::L) n F D k (.o (.v (.int .i64 m)))):OJs X o T L n F D k K:=by
 intro Q hQ Φ hΦ a w hr;obtain⟨A,ρ,h0⟩:=hr.one;refine Oper.wpIn_of_run (by simp[Cw,ho]) ?_;obtain⟨ht,i',hi',his⟩:=Jg (X.ok.el _ _ hel);simp only at ht hi' his;have ha1:cl.args= #[x,y]:=Cn hargs;have ha2:cl.argTypes= #[t,t']:=Cn htys;have hv:a.eval x=.slice (some ⟨g,off,none⟩) dl dc:=h0.ev hx;obtain⟨ad,c',l,hy,rfl,hcs⟩:=hsrc A ρ a w h0.toVw λb hb=>(h0.a2 b hb).1;have hg:w.heap[g]? =some (.cells hs.toArray e' (0,0)):=h0.lo j _ hj;have hst:=Lo X.P g off e' news 0 hs.toArray w hg (by simpa using hfit) h1;have hl:=R7 (P:=X.P) w ad news hcs;have hrun:(Builtin.copy_ #[t,t'] o.type #[.slice (some ⟨g,off,none⟩) dl dc,.slice (some ad) l c']).run X.P w=.ok (goInt m) (w.setRow g (hs.take off++news++hs.drop (off+news.length)).toArray):=by
  simp only[Eb] at hst;rw[hn] at hl;simp[Builtin.copy_,At ht,Builtin.lenOf,Builtin.firstCells,sizeOf,typeInfo,hi',his,hm,hl,hst]
 have e1:(execOp a.eval o).run X.P w=.ok (.value (goInt m)) (w.setRow g (hs.take off++news++hs.drop (off+news.length)).toArray):=by
  simp only[execOp,ho,resolve,hcl,ha1,ha2,L8,Bj,E4,hv,hy,Ba,Bh,An,invoke,builtin,hrun]
 rw[e1];exact IU hΦ h (hr.rawSet hj) λ_=>I
theorem W5 {cl:Call} (j:Nat) {dl dc sl:Nat} (hj:Ah L j=some (.ob g (Qb hs e))) (ho:o.op=.call cl) (hcl:cl.callee=.builtin .append) (hargs:cl.args.toList=[x,y]) (htys:cl.argTypes.toList=[t,t])
  (hx:evS T x=some (.o (.v (.slice (some ⟨g,0,none⟩) dl dc)))) (hel:Ah X.tab.el t=some (e,sz))
  (hsrc:∀A ρ a w,Vw T L F A ρ a w->(∀b,A b->b<w.heap.size)->(∃ad c l,a.eval y=.slice (some ad) l c/\l=sl/\∀j u,news[j]? =some u->w.cell? (ad.add j)=some u)) (hn:news.length=sl*sz) (hroom:dl+sl<=dc) (hfit:dl*sz+news.length<=hs.length) (h1:∀v∈news,v.oneCell'=true)
  (h:R1 X o T ((j,.ob g (Qb (hs.take (dl*sz)++news++hs.drop (dl*sz+news.length)) e))::L) n F D k (.o (.v (.slice (some ⟨g,0,none⟩) (dl+sl) dc)))):OJs X o T L n F D k K:=by
 intro Q hQ Φ hΦ a w hr;obtain⟨A,ρ,h0⟩:=hr.one;refine Oper.wpIn_of_run (by simp[Cw,ho]) ?_;obtain⟨ht,i',hi',his⟩:=Jg (X.ok.el _ _ hel);simp only at ht hi' his;have ha1:cl.args= #[x,y]:=Cn hargs;have ha2:cl.argTypes= #[t,t]:=Cn htys;have hv:a.eval x=.slice (some ⟨g,0,none⟩) dl dc:=h0.ev hx;obtain⟨ad,c',l,hy,rfl,hcs⟩:=hsrc A ρ a w h0.toVw λb hb=>(h0.a2 b hb).1;have hg:w.heap[g]? =some (.cells hs.toArray e (0,0)):=h0.lo j _ hj;have hrun:=run_append_room (P:=X.P) w t o.type e i' ht hi' g dl dc hs.toArray hg ad l c' news (by rw[his];exact hn) hcs h1 hroom (by rw[his];simpa using hfit);rw[his] at hrun;have e1:(execOp a.eval o).run X.P w=.ok (.value (.slice (some ⟨g,0,none⟩) (dl+l) dc)) (w.setRow g (hs.take (dl*sz)++news++hs.drop (dl*sz+news.length)).toArray):=by
  simp only[execOp,ho,resolve,hcl,ha1,ha2,L8,Bj,E4,hv,hy,Ba,Bh,An,invoke,builtin,hrun]
 rw[e1];exact IU hΦ h (hr.rawSet hj) λ_=>I
def KM (P:Program) (t:TypeId):Bool:=match P.underlying t with|some (.int _)=>true|_=>false
theorem OO {P:Program} (h:KM P t=true):∃ki,P.underlying t=some (.int ki):=by
 unfold KM at h;split at h
 ·rename_i ki he;exact⟨ki,he⟩
 ·cases h
theorem WJ {cl:Call} {t':TypeId} (j:Nat) {by_ dl dc d:Nat} {zs:List Nat} {z:Int} (hj:Ah L j=some (.ob g (Qb hs e))) (ho:o.op=.call cl) (hcl:cl.callee=.builtin .append) (hargs:cl.args.toList=[x,y]) (htys:cl.argTypes.toList=[t,t']) (htn:KM X.P t'=true)
  (hx:evS T x=some (.o (.v (.slice (some ⟨g,0,none⟩) dl dc)))) (hy:evS T y=some (.o (.v (.int .i64 z)))) (hz:z=(q:Int)) (hel:Ah X.tab.el t=some (e,sz)) (hze:Ah X.tab.ze e=some zs) (hzl:zs.length=sz) (hsz:0<sz) (hby:Ah X.tab.by_ e=some by_) (hdst:o.dst=some d) (hd:Nat.blt d X.k=true)
  (hq:0<q) (hgr:dc<dl+q) (hl:dl*sz<=hs.length) (hcap:(dl+q)*by_<=140737488355328) (h63:dl+q<=maxLen)
  (h:∀a' c' junk,junk.length=q*sz->k ((d,.o (.v (.slice a' (dl+q) c')))::T) ((n,.own (.slice a' (dl+q) c') e sz (dl+q) (hs.take (dl*sz)++junk))::L) (n+1) F D):OJs X o T L n F D k K:=by
 subst hz;intro Q hQ Φ hΦ a w hr;obtain⟨A,ρ,h0⟩:=hr.one;refine Oper.wpIn_of_run (by simp[Cw,ho]) ?_;obtain⟨ht,i,hi,his⟩:=Jg (X.ok.el _ _ hel);obtain⟨i',zv,hi',hz1,hz2⟩:=Ts (X.ok.ze _ _ hze);obtain⟨kn,htk⟩:=OO htn;simp only at ht hi his;rw[hi] at hi';cases hi';have hyb:i.bytes=by_:=by
  have:=X.ok.by_ _ _ hby;unfold tyY at this;rw[hi] at this;simpa using this
 have hzs:zv.cells.size=sz:=by rw[hz2 ρ];simp[C4,Nz,hzl]
 have ha1:cl.args= #[x,y]:=Cn hargs;have ha2:cl.argTypes= #[t,t']:=Cn htys;have hv:a.eval x=.slice (some ⟨g,0,none⟩) dl dc:=h0.ev hx;have hu:a.eval y=.int .i64 q:=h0.ev hy;have hg:w.heap[g]? =some (.cells hs.toArray e (0,0)):=h0.lo j _ hj;have hold:(Builtin.firstCells i.size dl (.slice (some ⟨g,0,none⟩) dl dc)).run X.P w.drew=.ok (hs.take (dl*sz)).toArray w.drew:=by
  refine run_firstCells_some (P:=X.P) w.drew i.size dl ⟨g,0,none⟩ dl dc (hs.take (dl*sz)) (by rw[his,Am];omega) λj u hu=>?_;rw[H5,World.cell?_drew,Iu hg,Bl];have hlt:=(Aa.1 hu).1;rw[Am] at hlt;rw[Db tqO] at hu;exact hu
 have hsm:dl+q<=9223372036854775807:=by simp only[maxLen] at h63;omega
 have hqb:q*i.bytes<=281474976710656:=by
  rw[hyb];have:q*by_<=(dl+q)*by_:=D0 _ tqO;omega
 have hrun:=Lib.run_append_grow_zeros (P:=X.P) w t t' o.type e i zv .i64 kn ht htk hi hz1 (some ⟨g,0,none⟩) dl dc (hs.take (dl*sz)) hold q hq tqO hgr tqO hqb (Sk tqO (by rw[hyb];exact hcap));have e1:(execOp a.eval o).run X.P w=.ok (.value (.slice (some ⟨w.heap.size,0,none⟩) (dl+q) (grownCap w (dl+q) dc e))) (w.drew.alloc (.cells ((hs.take (dl*sz)).toArray++Builtin.zeroCells zv.cells q++Builtin.zeroCells zv.cells (grownCap w (dl+q) dc e- (dl+q))) e)):=by
  simp only[execOp,ho,resolve,hcl,ha1,ha2,L8,Bj,E4,hv,hu,Ba,Bh,An,invoke,builtin,hrun]
 rw[e1];have hcg:=W3 w (dl+q) dc e;refine hΦ _ _ _ _ _ (h (some ⟨w.heap.size,0,none⟩) (grownCap w (dl+q) dc e) (Builtin.zeroCells zv.cells q).toList (by simp[Builtin.zeroCells,hzs])) _ _ ((hr.newRow (v:=.slice (some ⟨w.heap.size,0,none⟩) (dl+q) (grownCap w (dl+q) dc e)) ?_ ?_).put (u:=.o (.v (.slice (some ⟨w.heap.size,0,none⟩) (dl+q) (grownCap w (dl+q) dc e)))) (λ_ _ _=>I) (by simp[E7,hdst,hd]))
 ·exact(P5 (Ga _ w)).alloc (Ak _) _
 ·refine⟨by simp[Builtin.zeroCells,hzs,Am];rw[Fl];omega,.inr ⟨w.heap.size,grownCap w (dl+q) dc e,_,I,Ak _,heap_alloc_new w.drew _,hcg,grownCap_le_maxLen _ _ _ _ h63,?_,?_⟩⟩
  ·simp only[Array.size_append,E9,Am,Sy,hzs];rw[C1 hl,<-Fl,<-Fl]
   congr 1
   omega
  ·simp only[Kk];rw[C0,Dm]
   ·simp[Am,Builtin.zeroCells,hzs,Fl];omega
   ·simp[Am,Builtin.zeroCells,hzs,Fl];omega
theorem Yr {z:Operand} {i e:Nat} {ki kj:IntKind} {p r:Int} (hp:p=(i:Int)) (hr:r=(q:Int)) (hi:i<=q) (hq:q<=cap) (ho:o.op=.slice t x (some y) (some z) none) (he:Ah X.tab.el t=some (e,sz)) (hx:evS T x=some (.o (.v (.slice a m cap)))) (hy:evS T y=some (.o (.v (.int ki p)))) (hz:evS T z=some (.o (.v (.int kj r)))):
  Yd X o T L F (.o (.v (.slice (if cap=i then a else a.map (·.add (i*sz))) (q- i) (cap- i)))):=by
 subst hp;subst hr;refine⟨by simp[Cw,ho],λA ρ a' w h0=>?_⟩;obtain⟨h1,i',h2,h3⟩:=Jg (X.ok.el _ _ he);have h4:=V7 h1;have e1:=h0.ev hx;have e2:=h0.ev hy;have e3:=h0.ev hz;simp only[TV.den,SV.den] at e1 e2 e3;simp only at h1 h2 h3;have hr:(Instr.slice t (.slice a m cap) (some (.int ki i)) (some (.int kj q)) none).run X.P w=.ok (.slice (if cap=i then a else a.map (·.add (i*sz))) (q- i) (cap- i)) w:=by
  have g1:(0:Int)<=i/\(i:Int)<=(q:Int):=by omega
  have g2:(0:Int)<=q/\(q:Int)<=(cap:Int):=by omega
  simp only[Instr.slice,Ba,At h1,An];simp[Instr.sliceBounds,Instr.sliceBound,asIntOf,hi,hq,sizeOf,typeInfo,h2,h3]
 simp only[execOp,ho,Kh,Gf,e1,e2,e3,Ba,Ln (h:=h4),hr,An,Bh,TV.den,SV.den]
theorem MP {z u:Operand} {i v e:Nat} {ki kj kl:IntKind} {p r s:Int} (hp:p=(i:Int)) (hr:r=(q:Int)) (hs:s=(v:Int)) (hi:i<=q) (hq:q<=v) (hv:v<=cap) (ho:o.op=.slice t x (some y) (some z) (some u)) (he:Ah X.tab.el t=some (e,sz)) (hx:evS T x=some (.o (.v (.slice a m cap)))) (hy:evS T y=some (.o (.v (.int ki p)))) (hz:evS T z=some (.o (.v (.int kj r)))) (hu:evS T u=some (.o (.v (.int kl s)))):
  Yd X o T L F (.o (.v (.slice (if v=i then a else a.map (·.add (i*sz))) (q- i) (v- i)))):=by
 subst hp;subst hr;subst hs;refine⟨by simp[Cw,ho],λA ρ a' w h0=>?_⟩;obtain⟨h1,i',h2,h3⟩:=Jg (X.ok.el _ _ he);have h4:=V7 h1;have e1:=h0.ev hx;have e2:=h0.ev hy;have e3:=h0.ev hz;have e4:=h0.ev hu;simp only[TV.den,SV.den] at e1 e2 e3 e4;simp only at h1 h2 h3;have hr:(Instr.slice t (.slice a m cap) (some (.int ki i)) (some (.int kj q)) (some (.int kl v))).run X.P w=.ok (.slice (if v=i then a else a.map (·.add (i*sz))) (q- i) (v- i)) w:=by
  simp only[Instr.slice,Ba,At h1,An];simp[Instr.sliceBounds,Instr.sliceBound,asIntOf,hi,hq,hv,sizeOf,typeInfo,h2,h3]
 simp only[execOp,ho,Gf,e1,e2,e3,e4,Ba,Ln (h:=h4),hr,An,Bh,TV.den,SV.den]
end
section
variable {α:Type} {enc:α->List Value} {k:Nat}
theorem Xk (hk:∀x,(enc x).length=k) (xs:List α):(xs.flatMap enc).length=xs.length*k:=by
 induction xs with
 |nil=>simp
 |cons x xs ih=>simp[E1,ih,hk,Id,Nk]
theorem XU (hk:∀x,(enc x).length=k):∀(xs:List α) (i:Nat),(xs.flatMap enc).take (i*k)=(xs.take i).flatMap enc
 | [],i=>by simp
 |x::xs,0=>by simp
 |x::xs,i+1=>by
  rw[E1,Id,Nk,Ub,Dm (by rw[hk];omega),hk,Lx,XU hk xs i];simp
theorem XS (hk:∀x,(enc x).length=k):∀(xs:List α) (i:Nat),(xs.flatMap enc).drop (i*k)=(xs.drop i).flatMap enc
 | [],i=>by simp
 |x::xs,0=>by simp
 |x::xs,i+1=>by
  rw[E1,Id,Nk,T9,Hy (l:=enc x) (by rw[hk];omega),hk,Lx,XS hk xs i];simp
variable {hs:List Value} {xs:List α}
theorem MZ (hk:∀x,(enc x).length=k) (ht:hs.take (xs.length*k)=xs.flatMap enc) (i:Nat):(hs.drop (i*k)).take ((xs.drop i).flatMap enc).length=(xs.drop i).flatMap enc:=by
 rw[<-XS hk,<-ht,Bn,Am,List.drop_take];by_cases h:xs.length*k<=hs.length
 ·rw[C1 h]
 ·rw[Nat.min_eq_right tqO,Dm (by rw[Bn];omega),Dm (by rw[Bn];omega)]
theorem XT (hk:∀x,(enc x).length=k) (ht:hs.take (xs.length*k)=xs.flatMap enc) {i:Nat} (hi:i<=xs.length):hs.take (i*k)=(xs.take i).flatMap enc:=by
 rw[<-XU hk,<-ht,Gq,C1 (D0 _ hi)]
theorem Ac6 (hk:∀x,(enc x).length=k) {tl:List Value} (ht:hs.take (xs.length*k)=xs.flatMap enc) {i:Nat} (hi:i<xs.length):(hs.take (i*k)++(xs.drop (i+1)).flatMap enc++tl).take ((xs.length- 1)*k)=(xs.eraseIdx i).flatMap enc:=by
 rw[XT hk ht (Nat.le_of_lt hi),C0,Dm,Ix,Em]
 ·rw[Az,Xk hk,Xk hk,Am,Bn,<-Fl];exact D0 _ tqO
 ·rw[Az,Xk hk,Xk hk,Am,Bn,<-Fl];exact D0 _ tqO
end
theorem Ajs {A X D hs:List Value} {p q r:Nat} (hA:hs.take p=A) (hAl:A.length=p) (hX:X.length=q) (hD:D.length=r) (hl:p+q+r<=hs.length):
  ((hs.take (p+q)++D++hs.drop (p+q+r)).take p++X++(hs.take (p+q)++D++hs.drop (p+q+r)).drop (p+q)).take (p+q+r)=A++X++D:=by
 have e0:(hs.take (p+q)).length=p+q:=by rw[Am];omega
 have e1:(hs.take (p+q)++D++hs.drop (p+q+r)).take p=A:=by
  rw[Cp,C0 tqO,Gq,C1 tqO,hA]
 have e2:(hs.take (p+q)++D++hs.drop (p+q+r)).drop (p+q)=D++hs.drop (p+q+r):=by
  rw[Cp,T9,e0,Le,Hy tqO,List.drop_zero,Cs]
 rw[e1,e2,<-Cp,C0 (by simp;omega),Dm (by simp;omega)]
theorem Ajt {A X D hs:List Value} {p q r:Nat} (hA:hs.take p=A) (hAl:A.length=p) (hX:X.length=q) (hD:D.length=r):
  ((hs.take p++X++hs.drop (p+q)).take (p+q)++D++(hs.take p++X++hs.drop (p+q)).drop (p+q+r)).take (p+q+r)=A++X++D:=by
 have e1:(hs.take p++X++hs.drop (p+q)).take (p+q)=A++X:=by
  rw[hA,C0 (by simp;omega),Dm (by simp;omega)]
 rw[e1,C0 (by simp;omega),Dm (by simp;omega)]
def X0 {α:Type} (xs:List α) (i:Nat) (x:α):List α:=xs.take i++x::xs.drop i
section
variable {X:Fx} {o:Oper} {T:TE} {L:LE} {n:Nat} {F:List Fact} {D:DF} {K:KK} {k:KS}
variable {t:TypeId}
theorem Abu {src:Operand} {b m' c':Nat} {news:List Value} (hsrc:evS T src=some (.o (.v (.slice (some ⟨b,0,none⟩) m' c')))) (hf:B9 b news t∈F):∀A ρ a w,Vw T L F A ρ a w->(∀b,A b->b<w.heap.size)->(∃ad c l,a.eval src=.slice (some ad) l c/\l=m'/\∀j u,news[j]? =some u->w.cell? (ad.add j)=some u):=by
 intro A ρ a w h0 _;refine⟨⟨b,0,none⟩,c',m',h0.ev hsrc,I,λj u hu=>?_⟩;have h1:=(h0.a3 _ hf).2;rw[H5,Iu h1];simpa using hu
theorem Aod {src:Operand} {b m' c':Nat} {news:List Value} (hsrc:evS T src=some (.o (.v (.slice (some ⟨b,0,none⟩) m' c')))) (hf:B9 b news t∈F):∀A ρ a w,Vw T L F A ρ a w->(∀b,A b->b<w.heap.size)->(∃ad c,a.eval src=.slice (some ad) m' c/\∀j u,news[j]? =some u->w.cell? (ad.add j)=some u)\/(a.eval src=.slice none 0 0/\m'=0/\news=[]):=by
 intro A ρ a w h0 hA;obtain⟨ad,c,l,h1,rfl,h2⟩:=Abu hsrc hf A ρ a w h0 hA;exact .inl ⟨ad,c,h1,h2⟩
theorem QA {cl:Call} {x y:Operand} {g q m m' b off lb cb:Nat} {fn:Func} {tS tR:TypeId} {e sz:Nat} {cs:List Value} {ct:TypeId} {hs:List Value} {ce:TypeId} (j:Nat) (hf:X.P.funcs[g]? =some fn) (hname:(fn.name == "runtime.NumGoroutine")=false) (hb:fn.body.isNone=true) (hn:Extern.findNext fn=none) (he:Extern.find fn=some (Extern.SlicesOverlaps.overlaps #[tS,tS] #[tR]))
  (ho:o.op=.call cl) (hcl:cl.callee=.value (.func g)) (hargs:cl.args.toList=[x,y]) (hx:evS T x=some (.o (.v (.slice (some ⟨q,0,none⟩) m m')))) (hq:B9 q cs ct∈F) (hy:evS T y=some (.o (.v (.slice (some ⟨b,off,none⟩) lb cb)))) (hj:Ah L j=some (.ob b (Qb hs ce))) (hne:hs≠ []) (hel:Ah X.tab.el tS=some (e,sz))
  (h:R1 X o T L n F D k (.o (.v (.bool false)))):OJs X o T L n F D k K:=by
 intro Q hQ Φ hΦ a w hr;obtain⟨A,ρ,h0⟩:=hr.one;refine Oper.wpIn_of_run (by simp[Cw,ho]) ?_;obtain⟨ht,i,hi,his⟩:=Jg (X.ok.el _ _ hel);simp only at ht hi his;have ha1:cl.args= #[x,y]:=Cn hargs;have hv:a.eval x=.slice (some ⟨q,0,none⟩) m m':=h0.ev hx;have hu:a.eval y=.slice (some ⟨b,off,none⟩) lb cb:=h0.ev hy;have hg:w.heap[b]? =some (.cells hs.toArray ce (0,0)):=h0.lo j _ hj;obtain⟨hqA,hk⟩:=h0.a3 _ hq;have hd:q≠b:=λe=>(h0.a2 q hqA).2 j _ hj (by rw[e];rfl);have hz:∀w,(Go.sizeOf e).run X.P w=.ok i.size w:=λw=>by simp[sizeOf,typeInfo,hi]
 have hrun:=Lib.run_overlaps_apart (P:=X.P) w tS tR e ht i.size hz ⟨q,0,none⟩ ⟨b,off,none⟩ m m' lb cb hd ct ce cs.length hs.length (by simp[World.shape?,hk]) (by simp[World.shape?,hg]) (by simpa using hne) (by simp[World.frozen?,hk]) (by simp[World.frozen?,hk]);have hE:=run_callFunc_extern hf hname hb hn he #[.slice (some ⟨q,0,none⟩) m m',.slice (some ⟨b,off,none⟩) lb cb] w;rw[hrun] at hE;simp only[An] at hE;have e1:(execOp a.eval o).run X.P w=.ok (.value (.bool false)) w:=by
  have e3:a.eval (.func g)=.func (.func g) #[] #[]:=I;simp[execOp,ho,resolve,hcl,ha1,e3,Deferred.ofValue,invoke,hv,hu,hE]
 rw[e1];exact IU hΦ h hr λ_=>I
theorem VT {cl:Call} {x:Operand} {e:TypeId} {sz m cap:Nat} {a:Option Addr} (ho:o.op=.call cl) (hcl:cl.callee=.builtin .cap) (hargs:cl.args.toList=[x]) (htys:cl.argTypes.toList=[t]) (hel:Ah X.tab.el t=some (e,sz)) (hx:evS T x=some (.o (.v (.slice a m cap)))):Yd X o T L F (.o (.v (.int .i64 (cap:Int)))):=by
 refine⟨by simp[Cw,ho],λA ρ a' w h0=>?_⟩;obtain⟨h1,i',h2,h3⟩:=Jg (X.ok.el _ _ hel);simp only at h1;have ha1:cl.args= #[x]:=Cn hargs;have ha2:cl.argTypes= #[t]:=Cn htys;have hv:a'.eval x=.slice a m cap:=h0.ev hx;have hrun:(Builtin.cap_ #[t] o.type #[.slice a m cap]).run X.P w=.ok (goInt cap) w:=by
  simp[Builtin.cap_,At h1]
 simp only[execOp,ho,resolve,hcl,ha1,ha2,L8,Bj,E4,hv,Ba,Bh,An,invoke,builtin,hrun];rfl
theorem J1 {t:TypeId} {x y:Operand} {g off m cap i sz e:Nat} {ki:IntKind} {z:Int} (h:R1 X o T L n F D k (.o (.v (.slice (some ⟨g,off+i*sz,none⟩) (m- i) (cap- i))))) (hz:z=(i:Int):=by exact I) (ho:o.op=.slice t x (some y) none none:=by exact I) (he:Ah X.tab.el t=some (e,sz):=by exact I) (hx:evS T x=some (.o (.v (.slice (some ⟨g,off,none⟩) m cap))):=by exact I) (hy:evS T y=some (.o (.v (.int ki z))):=by exact I) (hi:i<=m:=by exact tqO) (hn:cap≠i:=by exact tqO):OJs X o T L n F D k K:=by
 refine Sq hz hi ho he hx hy ?_;rw[Ar hn,Gf,H5];exact h
theorem Rel.nameOb {j g t off m cap:Nat} {hs:List Value} {e:TypeId} {a:Act} {w:World} (h:Rel X T L n F D a w) (hj:Ah L j=some (.ob g (Qb hs e))) (ht:Ah T t=some (.o (.v (.slice (some ⟨g,off,none⟩) m cap)))):Rel X ((t,.o (.s n off m cap))::T) ((n,D9 hs e)::(j,.dead)::L) (n+1) F D a w:=by
 obtain⟨hkb,ρ0,A,h0⟩:=h;refine⟨λk e' hk=>?_,λi=>if i=n then g else ρ0 i,A,λρ hρ=>?_⟩
 ·rw[As] at hk;split at hk
  ·omega
  rw[As] at hk;split at hk
  ·rename_i ek;have:=hkb _ _ hj;omega
  ·have:=hkb k e' hk;omega
 have rn:ρ n=g:=by simpa using hρ n tqO
 have hl:∀i,i<n->ρ i=ρ0 i:=λi hi=>by simpa [Km hi] using hρ i tqO
 have h1:=h0 ρ hl;have bl:∀k e' b,Ah ((n,D9 hs e)::(j,LC.dead)::L) k=some e'->e'.blk ρ k=some b->(k=n/\b=g)\/(k≠n/\k≠j/\Ah L k=some e'/\b≠g):=by
  intro k e' b hk hb;rw[As] at hk;split at hk
  ·rename_i ek;cases hk;subst ek;simp only[D9,LC.blk,B7,rn] at hb;exact .inl ⟨I,hb.symm⟩
  rename_i e1;rw[As] at hk;split at hk
  ·cases hk;simp[LC.blk] at hb
  ·rename_i e2;exact .inr ⟨e1,e2,hk,λe=>e2 (h1.ds k j _ _ b hk hj hb (by rw[e];rfl))⟩
 refine⟨⟨λt' u hu=>?_,λk e' hk=>?_,h1.a3⟩,h1.sz,h1.df,h1.kp,λk e' b hk hb=>?_,λk1 k2 f1 f2 b hk1 hk2 hb1 hb2=>?_,h1.a1,λb hb=>⟨(h1.a2 b hb).1,λk e' hk hbk=>?_⟩,h1.mb⟩
 ·rw[As] at hu;split at hu
  ·rename_i et;cases hu;subst et;rw[h1.tm _ _ ht];simp[TV.den,SV.den,rn]
  ·exact h1.tm t' u hu
 ·rw[As] at hk;split at hk
  ·rename_i ek;cases hk;subst ek;show w.heap[ρ k]? =_
   rw[rn];exact h1.lo j _ hj
  rw[As] at hk;split at hk
  ·cases hk;trivial
  ·exact h1.lo k e' hk
 ·rcases bl k e' b hk hb with ⟨_,rfl⟩|⟨_,_,h3,_⟩
  ·exact h1.nw j _ b hj I
  ·exact h1.nw k e' b h3 hb
 ·rcases bl k1 f1 b hk1 hb1 with ⟨rfl,e1⟩|⟨_,_,h3,e1⟩<;>rcases bl k2 f2 b hk2 hb2 with ⟨rfl,e2⟩|⟨_,_,h4,e2⟩
  ·rfl
  ·exact absurd e1 e2
  ·exact absurd e2 e1
  ·exact h1.ds k1 k2 f1 f2 b h3 h4 hb1 hb2
 ·rcases bl k e' b hk hbk with ⟨_,rfl⟩|⟨_,_,h3,_⟩
  ·exact(h1.a2 b hb).2 j _ hj I
  ·exact(h1.a2 b hb).2 k e' h3 hbk
end
end Go.Proofs.YtjofafbkkpdgbaaGreat
