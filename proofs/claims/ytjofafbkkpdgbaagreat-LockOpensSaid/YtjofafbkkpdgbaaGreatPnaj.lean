/- A part of the proof of LockOpens: rules and contracts. No condition. -/
import Derived.Test.YtjofafbkkpdgbaaGreatPnai
set_option maxRecDepth 100000
set_option maxHeartbeats 4000000
set_option linter.all false
namespace Go.Proofs.YtjofafbkkpdgbaaGreat.Ck
open Go.Proofs.Tryz
open Go Go.RowKit Go.Shelf
def isV (r:Value):Ex->Bool
 | .val v=>Oh v r
 |_=>false
theorem Ag1 {r:Value} {e:Ex} (h:isV r e=true):e=.val r:=by
 cases e with
 |val v=>rw[Y9 v r h]
 |_=>cases h
section
variable {P:Program} {cau:FuncId->Bool} {te:TypeId} {kn:Kn} {g:FuncId} {fuel:Nat}
theorem cm_of_evA (hs:Lf P false (ev P false cau te kn fuel)) {bs us:List Value} {n:Nat} {G0:Gh} (hu:∀G,Ag (λk=>k<n) G0 G->us=bs.map (den G)) {r:Value} (hr:plainV r=true)
  (h:(ev P false cau te kn fuel (.fn g bs) noF ⟨.lf,n⟩ λe _ _=>isV r e)=true):Cm P g us [] [] (Bd r):=λA w _ _ hA _=>by
 rcases hs (.fn g bs) noF ⟨.lf,n⟩ (λe _ _=>isV r e) with h1|⟨e,F',H',h1,hfn⟩
 ·rw[h] at h1;cases h1
 ·rw[h] at h1;have:=Ag1 h1.symm;subst this;refine(Fz (n:=8)).1 ?_;refine hfn none 8 (λk=>k<n) G0 us.toArray w _ (λG hG=>by rw[hu G hG]) ⟨λ_ h=>h,λk b hk=>by simp at hk,λG _=>⟨λk b hk=>by simp at hk,λk k' b b' hk=>by simp at hk⟩⟩
   (λal' G' w' t1 _ u hu'=>?_) (.inl ⟨_,I⟩)
  have e1:u=r:=(hu' G' .rfl).trans (den_plain G' r hr);subst e1;exact⟨[],[],⟨I,I⟩,⟨t1.os,t1.tape,t1.output,t1.size,λb hb _=>t1.keep b hb λ⟨k,x,hk,_⟩=>by simp at hk⟩,I,λi x c hx=>by simp at hx,A,λb hb=>.inl hb,λb hb=>Aw (hA b hb) t1.size,λf hf=>by cases hf⟩
end
end Go.Proofs.YtjofafbkkpdgbaaGreat.Ck
namespace Go.Proofs.YtjofafbkkpdgbaaGreat
open Go.Proofs.Tryz
open Go.RowKit Go.Shelf
theorem NN {z z':Int} (h:z=z'):Ending.returned (.int .i64 z)=.returned (.int .i64 z'):=by rw[h]
def Dt (m:Int):Bool:=decide (0<=m)&&decide (m<=5)
theorem Adw {m:Int}:Dt m=true↔0<=m/\m<=5:=by simp[Dt]
theorem HC {m:Int} (h:Dt m=true):m=0\/m=1\/m=2\/m=3\/m=4\/m=5:=by rw[Adw] at h;omega
def El (a b:Int):Bool:=if a=0\/b=0 then true else if a=5\/b=5 then false else if a=1\/b=1 then true else decide (a=b)&&decide (a≠4)
theorem IS (m:Int):Cm prog 196 [.int .i64 m] [] [] (Bd (.bool (Dt m))):=by
 refine tqm [.o (.v (.int .i64 m))] func196 ntmps196 λ_ _=>?_;repeat' (first|(refine Al [] I2 λ_=>⟨Bx ?_,rfl⟩;first|(simp[Dt, *];done)|(rw[Be];simp[Dt];omega))|refine Ai (λ_=>?_) λ_=>?_)
def QT (m:Int):Int:=bif Dt m then 0 else 130
theorem HD (m:Int):Cm prog 126 [.int .i64 m] [] [] (Bd (.int .i64 (QT m))):=by
 refine tqm [.o (.v (.int .i64 m))] func126 ntmps126 λ_ _=>?_;refine tqc I5 (λ_=>IS m) ?_;unfold QT;cases h:Dt m
 ·exact tqE
 ·exact tqE
theorem Aoa {f:Nat} (v:Value) (r:Bool) (h:(Ck.plainV v&&Ck.ev prog false (λ_=>false) 0 Ck.kn0 10000 (.fn f [v]) Ck.noF ⟨.lf,0⟩ λe _ _=>Ck.isV (.bool r) e)=true):Cm prog f [v] [] [] (Bd (.bool r)):=by
 rw[Ad] at h;exact Ck.cm_of_evA (G0:=λ_=>⟨0,0,0,0,0⟩) (Ck.ev_sound tqK Ck.kn0S (λg h=>by cases h) _) (λG _=>by rw[Bj,Ck.den_plain G v h.1];rfl) I h.2
theorem Aep (a b:Int) (ha:Dt a=true) (hb:Dt b=true):Cm prog 329 [.agg #[.int .i64 a,.int .i64 b]] [] [] (Bd (.bool (El a b))):=by
 rcases HC ha with rfl|rfl|rfl|rfl|rfl|rfl<;>rcases HC hb with rfl|rfl|rfl|rfl|rfl|rfl<;>exact Aoa _ _ tqK
theorem CI (a b:Int):Cm prog 297 [.int .i64 a,.int .i64 b] [] [] (Bd (.tuple #[.bool (Dt a&&Dt b&&El a b),.int .i64 (bif Dt a&&Dt b then 0 else 130)])):=by
 refine tqm [.o (.v (.int .i64 a)),.o (.v (.int .i64 b))] func297 ntmps297 λ_ _=>?_;refine En func200 ntmps200 ?_;intro w1 A1 M1 N1 hN1;refine Vb 0 I I ?_;refine tqc I5 (λ_=>IS a) ?_;cases ha:Dt a
 ·refine⟨I,?_⟩;refine⟨I,?_⟩;exact tqE
 refine tqc I5 (λ_=>IS b) ?_;cases hb:Dt b
 ·refine⟨I,?_⟩;refine⟨I,?_⟩;exact tqE
 refine tqc I5 (λ_=>Aep a b ha hb) ?_;refine⟨I,?_⟩;exact tqE
theorem Zh (m:Int):Cm prog 89 [.int .i64 m] [] [] (Bd (.bool (m == 5))):=by
 refine tqm [.o (.v (.int .i64 m))] func89 ntmps89 λ_ _=>?_;exact tqE
structure Ctr where
 value:Int
 floor:Int
 version:Int
def Ke (c:Ctr):List Value:=[.int .i64 c.value,.int .i64 c.floor,.int .u64 c.version]
def Ho (c:Ctr):Bool:=decide (c.floor<=c.value)&&decide (c.version<=4611686018427387904)
def S9 (c:Ctr):Int:=bif Ho c then 0 else 2
theorem Vd (c:Ctr):Cm prog 25 [.agg (Ke c).toArray] [] [] (Bd (.int .i64 (S9 c))):=by
 refine tqm [.g [.v (.int .i64 c.value),.v (.int .i64 c.floor),.v (.int .u64 c.version)]] func25 ntmps25 λ_ _=>?_;refine En func67 ntmps67 ?_;intro w1 A1 M1 N1 hN1;refine Ai (λg1=>?_) λg1=>?_
 ·refine⟨I,?_⟩;refine A7 (λg2=>?_) λg2=>?_
  ·exact Al [] I2 λ_=>⟨NN (by(simp at*;unfold S9;cases hcb:Ho c<;>first|rfl|(exfalso;simp[Ho] at hcb;omega))),I⟩
  ·exact Al [] I2 λ_=>⟨NN (by(simp at*;unfold S9;cases hcb:Ho c<;>first|rfl|(exfalso;simp[Ho] at hcb;omega))),I⟩
 ·refine⟨I,?_⟩;exact Al [] I2 λ_=>⟨NN (by(simp at*;unfold S9;cases hcb:Ho c<;>first|rfl|(exfalso;simp[Ho] at hcb;omega))),I⟩
theorem O9 (c:Ctr):Cm prog 32 [.agg (Ke c).toArray] [] [] (Bd (.bool (Ho c))):=by
 refine tqm [.g [.v (.int .i64 c.value),.v (.int .i64 c.floor),.v (.int .u64 c.version)]] func32 ntmps32 λ_ _=>?_;repeat' (first|(refine Al [] I2 λ_=>⟨Bx ?_,rfl⟩;first|(simp[Ho, *];done)|(rw[Be];simp[Ho];omega))|refine Ai (λ_=>?_) λ_=>?_)
theorem Ux (m:Int):Cm prog 172 [.int .i64 m] [] [] (Bd (.bool (Dt m))):=by
 refine tqm [.o (.v (.int .i64 m))] func172 ntmps172 λ_ _=>?_;repeat' (first|(refine Al [] I2 λ_=>⟨Bx ?_,rfl⟩;first|(simp[Dt, *];done)|(rw[Be];simp[Dt];omega))|refine Ai (λ_=>?_) λ_=>?_)
structure Sta where
 over:Int
 pend:Bool
 mode:Int
 prio:Int
def Bv (x:Sta):List Value:=[.int .i64 x.over,.bool x.pend,.int .i64 x.mode,.int .i64 x.prio]
def Gk (x:Sta):Bool:=bif x.pend then(decide (0<=x.over)&&decide (x.over<=1099511627775))&&(decide (1<=x.mode)&&decide (x.mode<=5))&&(decide (0<=x.prio)&&decide (x.prio<=3)) else(decide (0<=x.over)&&decide (x.over<=1099511627776))&&decide (x.mode=0)&&decide (x.prio=0)
def Abv (x:Sta):Int:=bif Gk x then 0 else 2
def Aoe (x:Sta):List Value:=bif x.pend then [.int .i64 x.over,.int .i64 0,.int .i64 1099511627775,.int .i64 x.mode,.int .i64 1,.int .i64 5,.int .i64 x.prio,.int .i64 0,.int .i64 3] else [.int .i64 x.over,.int .i64 0,.int .i64 1099511627776,.int .i64 x.mode,.int .i64 0,.int .i64 0,.int .i64 x.prio,.int .i64 0,.int .i64 0]
theorem HV (x:Sta):Cm prog 267 [.agg (Bv x).toArray] [] [] (Bd (.agg (Aoe x).toArray)):=by
 obtain⟨o,p,m,q⟩:=x;cases p
 ·refine tqm [.g [.v (.int .i64 o),.v (.bool false),.v (.int .i64 m),.v (.int .i64 q)]] func267 ntmps267 λ_ _=>?_;refine B8 Ha ?_;exact tqE
 ·refine tqm [.g [.v (.int .i64 o),.v (.bool true),.v (.int .i64 m),.v (.int .i64 q)]] func267 ntmps267 λ_ _=>?_;refine B8 Ha ?_;exact tqE
theorem Aie (x:Sta):Cm prog 191 [.agg (Bv x).toArray] [] [] (Bd (.bool (Gk x))):=by
 obtain⟨o,p,m,q⟩:=x;cases p
 ·refine tqm [.g [.v (.int .i64 o),.v (.bool false),.v (.int .i64 m),.v (.int .i64 q)]] func191 ntmps191 λ_ _=>?_;refine tqc I5 (λ_=>HV ⟨o,false,m,q⟩) ?_;refine Hj 4 ?_;refine B8 (S1 (i:=0) (m:=3) I tqD I I I I I I) ?_;refine Ai (λ_=>?_) λ_=>?_
  ·exact Al [] I2 λ_=>⟨Bx (by cases hcb:Gk _<;>first|rfl|(exfalso;simp[Gk] at hcb;(try dsimp only at*);omega)),I⟩
  refine Ai (λ_=>?_) λ_=>?_
  ·exact Al [] I2 λ_=>⟨Bx (by cases hcb:Gk _<;>first|rfl|(exfalso;simp[Gk] at hcb;(try dsimp only at*);omega)),I⟩
  refine Af (z:=1) ?_;refine B8 (S1 (i:=1) (m:=3) I tqD I I I I I I) ?_;refine Ai (λ_=>?_) λ_=>?_
  ·exact Al [] I2 λ_=>⟨Bx (by cases hcb:Gk _<;>first|rfl|(exfalso;simp[Gk] at hcb;(try dsimp only at*);omega)),I⟩
  refine Ai (λ_=>?_) λ_=>?_
  ·exact Al [] I2 λ_=>⟨Bx (by cases hcb:Gk _<;>first|rfl|(exfalso;simp[Gk] at hcb;(try dsimp only at*);omega)),I⟩
  refine Af (z:=2) ?_;refine B8 (S1 (i:=2) (m:=3) I tqD I I I I I I) ?_;refine Ai (λ_=>?_) λ_=>?_
  ·exact Al [] I2 λ_=>⟨Bx (by cases hcb:Gk _<;>first|rfl|(exfalso;simp[Gk] at hcb;(try dsimp only at*);omega)),I⟩
  refine Ai (λ_=>?_) λ_=>?_
  ·exact Al [] I2 λ_=>⟨Bx (by cases hcb:Gk _<;>first|rfl|(exfalso;simp[Gk] at hcb;(try dsimp only at*);omega)),I⟩
  refine Af (z:=3) ?_;exact Al [] I2 λ_=>⟨Bx (by cases hcb:Gk _<;>first|rfl|(exfalso;simp[Gk] at hcb;(try dsimp only at*);omega)),I⟩
 ·refine tqm [.g [.v (.int .i64 o),.v (.bool true),.v (.int .i64 m),.v (.int .i64 q)]] func191 ntmps191 λ_ _=>?_;refine tqc I5 (λ_=>HV ⟨o,true,m,q⟩) ?_;refine Hj 4 ?_;refine B8 (S1 (i:=0) (m:=3) I tqD I I I I I I) ?_;refine Ai (λ_=>?_) λ_=>?_
  ·exact Al [] I2 λ_=>⟨Bx (by cases hcb:Gk _<;>first|rfl|(exfalso;simp[Gk] at hcb;(try dsimp only at*);omega)),I⟩
  refine Ai (λ_=>?_) λ_=>?_
  ·exact Al [] I2 λ_=>⟨Bx (by cases hcb:Gk _<;>first|rfl|(exfalso;simp[Gk] at hcb;(try dsimp only at*);omega)),I⟩
  refine Af (z:=1) ?_;refine B8 (S1 (i:=1) (m:=3) I tqD I I I I I I) ?_;refine Ai (λ_=>?_) λ_=>?_
  ·exact Al [] I2 λ_=>⟨Bx (by cases hcb:Gk _<;>first|rfl|(exfalso;simp[Gk] at hcb;(try dsimp only at*);omega)),I⟩
  refine Ai (λ_=>?_) λ_=>?_
  ·exact Al [] I2 λ_=>⟨Bx (by cases hcb:Gk _<;>first|rfl|(exfalso;simp[Gk] at hcb;(try dsimp only at*);omega)),I⟩
  refine Af (z:=2) ?_;refine B8 (S1 (i:=2) (m:=3) I tqD I I I I I I) ?_;refine Ai (λ_=>?_) λ_=>?_
  ·exact Al [] I2 λ_=>⟨Bx (by cases hcb:Gk _<;>first|rfl|(exfalso;simp[Gk] at hcb;(try dsimp only at*);omega)),I⟩
  refine Ai (λ_=>?_) λ_=>?_
  ·exact Al [] I2 λ_=>⟨Bx (by cases hcb:Gk _<;>first|rfl|(exfalso;simp[Gk] at hcb;(try dsimp only at*);omega)),I⟩
  refine Af (z:=3) ?_;exact Al [] I2 λ_=>⟨Bx (by cases hcb:Gk _<;>first|rfl|(exfalso;simp[Gk] at hcb;(try dsimp only at*);omega)),I⟩
theorem LV (x:Sta):Cm prog 121 [.agg (Bv x).toArray] [] [] (Bd (.int .i64 (Abv x))):=by
 refine tqm [.g [.v (.int .i64 x.over),.v (.bool x.pend),.v (.int .i64 x.mode),.v (.int .i64 x.prio)]] func121 ntmps121 λ_ _=>?_;refine tqc I5 (λ_=>Aie x) ?_;unfold Abv;cases h:Gk x
 ·exact tqE
 ·exact tqE
theorem Ahz (x:Sta):Cm prog 101 [.agg (Bv x).toArray] [] [] (Bd (.bool (Gk x))):=by
 obtain⟨o,p,m,q⟩:=x;cases p
 ·refine tqm [.g [.v (.int .i64 o),.v (.bool false),.v (.int .i64 m),.v (.int .i64 q)]] func101 ntmps101 λ_ _=>?_;repeat' (first|refine Ai (λ_=>?_) (λ_=>?_)|refine A7 (λ_=>?_) (λ_=>?_)|(refine Al [] I2 λ_=>⟨Bx ?_,rfl⟩;(rw[Be];simp[Gk,By] at* <;>(try dsimp only at*)<;>first|omega|(simp_all;done)|(simp_all;omega)))|(refine Aj [] [] I7 (λ_=>Ux _) ?_;rintro e cs F1 _ ⟨rfl,rfl⟩))
 ·refine tqm [.g [.v (.int .i64 o),.v (.bool true),.v (.int .i64 m),.v (.int .i64 q)]] func101 ntmps101 λ_ _=>?_;repeat' (first|refine Ai (λ_=>?_) (λ_=>?_)|refine A7 (λ_=>?_) (λ_=>?_)|(refine Al [] I2 λ_=>⟨Bx ?_,rfl⟩;(rw[Be];simp[Gk,Dt,Ci] at* <;>(try dsimp only at*)<;>first|omega|(simp_all;done)|(simp_all;omega)))|(refine Aj [] [] I7 (λ_=>Ux _) ?_;rintro e cs F1 _ ⟨rfl,rfl⟩))
def Iy (n:Int):Bool:=decide (0<=n)&&decide (n<=1099511627776)
theorem Ab2 (n:Int):Cm prog 137 [.int .i64 n] [] [] (Bd (.bool (Iy n))):=by
 refine tqm [.o (.v (.int .i64 n))] func137 ntmps137 λ_ _=>?_;refine En func206 ntmps206 ?_;intro w1 A1 M1 N1 hN1;refine B8 Ha ?_;refine⟨I,?_⟩;refine B8 (Io (i:=0) (m:=2)) ?_;refine Ai (λ_=>?_) λ_=>?_
 ·refine En func206 ntmps206 ?_;intro w2 A2 M2 N2 hN2;refine B8 Ha ?_;refine⟨I,?_⟩;refine B8 (Io (i:=1) (m:=2)) ?_;repeat' (first|refine Ai (λ_=>?_) (λ_=>?_)|refine A7 (λ_=>?_) (λ_=>?_)|(refine Al [] I2 λ_=>⟨Bx ?_,rfl⟩;(rw[Be];simp[Iy] at* <;>(try dsimp only at*)<;>first|omega|(simp_all;done)|(simp_all;omega)))|fail)
 ·repeat' (first|refine Ai (λ_=>?_) (λ_=>?_)|refine A7 (λ_=>?_) (λ_=>?_)|(refine Al [] I2 λ_=>⟨Bx ?_,rfl⟩;(rw[Be];simp[Iy] at* <;>(try dsimp only at*)<;>first|omega|(simp_all;done)|(simp_all;omega)))|fail)
theorem P2 (n:Int):Cm prog 73 [.int .i64 n] [] [] (Bd (.bool (Iy n))):=by
 refine tqm [.o (.v (.int .i64 n))] func73 ntmps73 λ_ _=>?_;repeat' (first|refine Ai (λ_=>?_) (λ_=>?_)|refine A7 (λ_=>?_) (λ_=>?_)|(refine Al [] I2 λ_=>⟨Bx ?_,rfl⟩;(rw[Be];simp[Iy] at* <;>(try dsimp only at*)<;>first|omega|(simp_all;done)|(simp_all;omega)))|fail)
def atO (n:Int):Gx:=λe _ F1=>∃v,e=.returned (.tuple #[.pointer v,.int .i64 (bif Iy n then 0 else 2)])/\F1=[]
theorem PR (n:Int):Cm prog 66 [.int .i64 n] [] [] (atO n):=by
 refine tqm [.o (.v (.int .i64 n))] func66 ntmps66 λ_ _=>?_;refine tqc I5 (λ_=>Ab2 n) ?_;unfold atO;cases h:Iy n
 ·exact Al [] I2 λ_=>⟨none,I,I⟩
 ·refine En func138 ntmps138 ?_;intro w1 A1 M1 N1 hN1;refine HF I I I λgm=>?_;refine⟨I,?_⟩;exact Al [] I2 λρ=>⟨some ⟨ρ 1,0,none⟩,I,I⟩
def Fk (n k:Int):Bool:=decide (0<=k)&&decide (k<n)
theorem LO (n l s:Int) (hs:Ef n l s=true):Cm prog 209 [.agg #[.int .i64 n,.int .i64 l,.int .i64 s]] [] [] (Bd (.int .i64 (n*s))):=by
 have h:=In hs;refine tqm [.g [.v (.int .i64 n),.v (.int .i64 l),.v (.int .i64 s)]] func209 ntmps209 λ_ _=>?_;refine Af (hz:=Ey ?_ ?_) ?_;rotate_left
 ·have:0<=n*s:=Sa tqO tqO;omega
 ·have:n*s<=64*4:=Ph tqO tqO tqO tqO;omega
 exact tqE
def ofX (n l s k:Int):Value:=bif Ef n l s then(bif Fk (n*s) k then .tuple #[.int .i64 (k.tdiv s),.int .i64 (k.tmod s),.int .i64 0] else .tuple #[.int .i64 0,.int .i64 0,.int .i64 4]) else .tuple #[.int .i64 0,.int .i64 0,.int .i64 2]
theorem Ah9 (n l s k:Int):Cm prog 156 [.agg #[.int .i64 n,.int .i64 l,.int .i64 s],.int .i64 k] [] [] (Bd (ofX n l s k)):=by
 refine tqm [.g [.v (.int .i64 n),.v (.int .i64 l),.v (.int .i64 s)],.o (.v (.int .i64 k))] func156 ntmps156 λ_ _=>?_;refine En func136 ntmps136 ?_;intro w1 A1 M1 N1 hN1;refine Vb 0 I I ?_;refine tqc I5 (λ_=>VL n l s) ?_;unfold ofX;cases hs:Ef n l s
 ·refine⟨I,?_⟩;refine⟨I,?_⟩;exact tqE
 have h:=In hs;refine En func187 ntmps187 ?_;intro w2 A2 M2 N2 hN2;refine En func265 ntmps265 ?_;intro w3 A3 M3 N3 hN3;refine Hj 2 ?_;refine Au (Ay (i:=0) (hz:=I) (ho:=I) (he:=I) (hx:=I) (hix:=I) (hi:=tqD)) ?_;refine En func205 ntmps205 ?_;intro w4 A4 M4 N4 hN4;refine En func235 ntmps235 ?_;intro w5 A5 M5 N5 hN5;refine Al0 [3,5] (tqs 0 6<| .op 6 .z) [0,1] [] [] [] tqK tqK I tqS λ_=>?_;refine⟨_,Ee,?_⟩;refine tqc I5 (λ_=>LO n l s hs) ?_;refine tqQ ?_;have h0:1<=n*s:=Ph (a:=1) (b:=1) tqO tqO tqO tqO;have h1:n*s<=64*4:=Ph tqO tqO tqO tqO;refine⟨_,Cb (ho:=I) (hx:=I) (hy:=I) (hr:=I) (hz:=Ey (r:=n*s- 1) tqO tqO),?_⟩;refine tqc I5 (λ_=>Vu k 0 (n*s- 1)) ?_;refine tqQ<|⟨I,?_⟩;have hw:inB k 0 (n*s- 1)=Fk (n*s) k:=by rw[Be];simp[inB,Fk];omega
 rw[hw];cases hk:Fk (n*s) k
 ·refine⟨I,?_⟩;refine⟨I,?_⟩;refine⟨I,?_⟩;refine⟨I,?_⟩;refine⟨I,?_⟩;exact tqE
 simp[Fk] at hk;refine⟨I,?_⟩;refine Af (z:=(1:Int)) ?_;refine⟨I,?_⟩;refine⟨I,?_⟩;refine⟨I,?_⟩;have hd:0<=k.tdiv s/\k.tdiv s<=k:=⟨Int.tdiv_nonneg hk.1 tqO,Int.tdiv_le_self _ hk.1⟩;have hm:0<=k.tmod s/\k.tmod s<s:=⟨Int.tmod_nonneg _ hk.1,Xc _ tqO⟩;refine Ao [] (tqs 0 10<| .op 10 .z) [0,1] [] [] [] λ_=>?_;refine⟨_,L5 (r:=k.tdiv s) tqO tqO tqO I I I I,?_⟩;refine⟨_,L5 (r:=k.tmod s) tqO tqO tqO I I I I,?_⟩;exact tqE
structure Plc where
 n:Int
 l:Int
 s:Int
 me:Int
 lock:Int
 limit:Int
 retry:Int
 far:Int
 now:Int
 still:Bool
def O8 (p:Plc):List Value:=[.int .i64 p.n,.int .i64 p.l,.int .i64 p.s,.int .i64 p.me,.int .i64 p.lock,.int .i64 p.limit,.int .i64 p.retry,.int .i64 p.far,.int .i64 p.now,.bool p.still]
def Xa (n:Int):Bool:=decide (1<=n)&&decide (n<=1099511627776)
def O1 (n:Int):Bool:=decide (0<=n)&&decide (n<=64)
def J9 (p:Plc):Bool:=Ef p.n p.l p.s&&(Fk p.n p.me&&Fk p.l p.lock)&&O1 p.limit&&Xa p.retry&&Xa p.far&&Iy p.now
theorem Ae6 (n:Int):Cm prog 72 [.int .i64 n] [] [] (Bd (.bool (Xa n))):=by
 refine tqm [.o (.v (.int .i64 n))] func72 ntmps72 λ_ _=>?_;repeat' (first|refine Ai (λ_=>?_) (λ_=>?_)|refine A7 (λ_=>?_) (λ_=>?_)|(refine Al [] I2 λ_=>⟨Bx ?_,rfl⟩;(rw[Be];simp[Xa] at* <;>(try dsimp only at*)<;>first|omega|(simp_all;done)|(simp_all;omega)))|fail)
theorem IY (n:Int):Cm prog 71 [.int .i64 n] [] [] (Bd (.bool (O1 n))):=by
 refine tqm [.o (.v (.int .i64 n))] func71 ntmps71 λ_ _=>?_;repeat' (first|refine Ai (λ_=>?_) (λ_=>?_)|refine A7 (λ_=>?_) (λ_=>?_)|(refine Al [] I2 λ_=>⟨Bx ?_,rfl⟩;(rw[Be];simp[O1] at* <;>(try dsimp only at*)<;>first|omega|(simp_all;done)|(simp_all;omega)))|fail)
theorem LD (p:Plc):Cm prog 31 [.agg (O8 p).toArray] [] [] (Bd (.bool (J9 p))):=by
 refine tqm [.g [.v (.int .i64 p.n),.v (.int .i64 p.l),.v (.int .i64 p.s),.v (.int .i64 p.me),.v (.int .i64 p.lock),.v (.int .i64 p.limit),.v (.int .i64 p.retry),.v (.int .i64 p.far),.v (.int .i64 p.now),.v (.bool p.still)]] func31 ntmps31 λ_ _=>?_;repeat' (first|refine Ai (λ_=>?_) (λ_=>?_)|refine A7 (λ_=>?_) (λ_=>?_)|(refine Al [] I2 λ_=>⟨Bx ?_,rfl⟩;(rw[Be];simp[J9,Fk] at* <;>(try dsimp only at*)<;>first|omega|(simp_all;done)|(simp_all;omega)))|first|(refine Aj [] [] I7 (λ_=>Ss _ _ _) ?_;rintro e cs F1 _ ⟨rfl,rfl⟩)|(refine Aj [] [] I7 (λ_=>IY _) ?_;rintro e cs F1 _ ⟨rfl,rfl⟩)|(refine Aj [] [] I7 (λ_=>Ae6 _) ?_;rintro e cs F1 _ ⟨rfl,rfl⟩)|(refine Aj [] [] I7 (λ_=>P2 _) ?_;rintro e cs F1 _ ⟨rfl,rfl⟩))
theorem Mo (n a b:Int):Cm prog 58 [.int .i64 n,.int .i64 a,.int .i64 b] [] [] (Bd (.bool (inB n a b))):=by
 refine tqm [.o (.v (.int .i64 n)),.o (.v (.int .i64 a)),.o (.v (.int .i64 b))] func58 ntmps58 λ_ _=>?_;repeat' (first|(refine Al [] I2 λ_=>⟨Bx ?_,rfl⟩;first|(simp[inB, *];done)|(rw[Be];simp[inB];omega))|refine Ai (λ_=>?_) λ_=>?_)
theorem Yu (i s:Nat):((i:Nat):Int).tdiv (s:Int)=((i / s:Nat):Int):=by rw[Int.ofNat_tdiv]
theorem Aki (i s:Nat):((i:Nat):Int).tmod (s:Int)=((i % s:Nat):Int):=by rw[Int.ofNat_tmod]
theorem BJ {q z:Nat} (h:q<=z) (hz:z<=1000000): -9223372036854775808<=((q:Nat):Int)/\((q:Nat):Int)<=9223372036854775807:=by omega
def Ac5 (s:Nat) (i:Nat):Value:=.agg #[.int .i64 ((i / s:Nat):Int),.int .i64 0,.int .i64 ((i % s:Nat):Int),.int .i64 1]
theorem WX (n l:Int) (s i:Nat) (hs:1<=s) (hi:i<=1000000):Cm prog 208 [.agg #[.int .i64 n,.int .i64 l,.int .i64 s],.int .i64 i] [] [] (Bd (Ac5 s i)):=by
 refine tqm [.g [.v (.int .i64 n),.v (.int .i64 l),.v (.int .i64 s)],.o (.v (.int .i64 i))] func208 ntmps208 λ_ _=>?_;have hd:=BJ (Nat.div_le_self i s) hi;have hm:=BJ (Nat.mod_le i s) hi;refine Ao [11] (tqs 0 11<| .op 11 .z) [0] [] [] [] λ_=>?_;refine⟨_,L5 (r:=((i / s:Nat):Int)) tqO hd.1 hd.2 I I I (Fb some (Yu i s)),?_⟩;refine⟨_,L5 (r:=((i % s:Nat):Int)) tqO hm.1 hm.2 I I I (Fb some (Aki i s)),?_⟩;refine⟨_,Ee,?_⟩;exact tqQ<|tqE
def H8 (n l s:Int):List Nat:=if Ef n l s=true then List.range (n.toNat*s.toNat) else []
def Anw (s:Int) (i:Nat):List Value:=[.int .i64 i,Ac5 s.toNat i]
theorem Uy {n l s:Int}:(H8 n l s).length<=256:=by
 unfold H8;split
 ·rename_i h;have:=In h;rw[M0];exact(show n.toNat*s.toNat<=64*4 from Se tqO tqO)
 ·simp
theorem Am5 (n l s:Int) (b:Nat):Y2 prog 207 [.pointer (some ⟨b,0,none⟩)] [B9 b [.int .i64 n,.int .i64 l,.int .i64 s] 23] (Anw s) (H8 n l s):=by
 refine Xs (tab:=tb) (ok:=R8) [.o (.v (.pointer (some ⟨b,0,none⟩)))] func207 ntmps207 I I (λ_=>I) ?_;intro S;refine Xi I ?_;refine Au (Cu (vs:=[.int .i64 n,.int .i64 l,.int .i64 s]) (S.inF (B9 b [.int .i64 n,.int .i64 l,.int .i64 s] 23)) λA w h=>OC _ _ h.2) ?_;refine tqc I5 (λ_=>Qz n l s) ?_;unfold Nu;cases hs:Ef n l s
 ·have hx:H8 n l s=[]:=by unfold H8;rw[Ar (by rw[hs];simp)]
  have hl:(H8 n l s).length=0:=by rw[hx];rfl
  exact Og (by rw[hl];simp) I I
 have h:=In hs;obtain⟨s',rfl⟩:∃s':Nat,s=s':=⟨s.toNat,tqO⟩;obtain⟨n',rfl⟩:∃n':Nat,n=n':=⟨n.toNat,tqO⟩;have hx:H8 n' l s'=List.range (n'*s'):=by unfold H8;rw[Bi hs];rfl
 have hle:n'*s'<=256:=by have:=Uy (n:=n') (l:=l) (s:=s');rw[hx,M0] at this;exact this
 refine Au (Cu (vs:=[.int .i64 n',.int .i64 l,.int .i64 s']) (S.inF (B9 b [.int .i64 n',.int .i64 l,.int .i64 s'] 23)) λA w h=>OC _ _ h.2) ?_;refine Mb (DE (v:=.agg #[.int .i64 n',.int .i64 l,.int .i64 s']) I I λ_=>I) ?_;refine tqc I5 (λ_=>LO n' l s' hs) ?_;refine Rj (γ:=Nat) (λk=>k<=n'*s') (λk=>[(15,.o (.v (.int .i64 k)))]) (λ_=>[]) (λk=>[S.jF k]) (λk=>n'*s'- k) 0 (Ax _) (Ac (hM:=by simp[It.X])) ?_;intro k hk;refine Ai (λh1=>?_) λh1=>?_
 ·have hkl:k<n'*s':=by rw[<-Q6] at h1;omega
  refine tqc I5 (λ_=>WX n' l s' k tqO tqO) ?_;refine Rz k [] I I I I (by rw[hx];exact Q1 hkl) (λ_=>I) tqS tqS ?_ ?_
  ·refine Af (z:=(k+1:Nat)) (hz:=by rw[Ey]<;>omega) (ho:=I) (hx:=I) (hy:=I) (hr:=I) ?_;exact⟨k+1,tqO,tqP,Ac (hM:=by simp[It.X])⟩
  ·exact Px (k+1) tqS tqO (by rw[hx,M0];omega) I I
 ·obtain rfl:k=n'*s':=by rw[<-Q6] at h1;omega
  have hxl:(H8 n' l s').length=n'*s':=by rw[hx,M0]
  refine Og (by rw[hxl];simp) I I
def Afg (n l s:Int):Gx:=λe _ F1=>∃b,e=.returned (.func (.func 207) #[] #[.pointer (some ⟨b,0,none⟩)])/\F1=[B9 b [.int .i64 n,.int .i64 l,.int .i64 s] 23]
theorem Abp (n l s:Int):Cm prog 139 [.agg #[.int .i64 n,.int .i64 l,.int .i64 s]] [] [] (Afg n l s):=by
 refine tqm [.g [.v (.int .i64 n),.v (.int .i64 l),.v (.int .i64 s)]] func139 ntmps139 λ_ _=>?_;exact Lp [0] [] I3 λρ=>⟨ρ 0,I,I⟩
theorem BQ (n l s:Int):Cm prog 68 [.agg #[.int .i64 n,.int .i64 l,.int .i64 s]] [] [] (Bd (.tuple #[.int .i64 (H8 n l s).length,.int .i64 (Nu n l s)])):=by
 refine tqn [.g [.v (.int .i64 n),.v (.int .i64 l),.v (.int .i64 s)]] func68 ntmps68 I I (λ_ _=>I) λ_ _=>?_;refine Aj [] [] I7 (λ_=>Abp n l s) ?_;rintro e cs F1 _ ⟨b,rfl,rfl⟩;have hle:=Uy (n:=n) (l:=l) (s:=s);obtain⟨xs,hxs⟩:∃xs,xs=H8 n l s:=⟨_,I⟩;have hseq:=Am5 n l s b;rw[<-hxs] at hle hseq⊢;refine Rk (γ:=Unit) (λ_ _=>True) (λk _=>([(1,.c [.v (.int .i64 k)] 3),(0,.c [.v (.int .i64 n),.v (.int .i64 l),.v (.int .i64 s)] 23)],[B9 b [.int .i64 n,.int .i64 l,.int .i64 s] 23])) () hseq I I I (λ_=>I) I (Ax _) trivial ?_ tqS ?_ ?_
 ·exact Ac
 ·rintro k x- hx- l1 w1 A1 M1 N1 hN1;have hkl:=(Aa.1 hx).1;intro w2 A2 M2 N2 hN2;refine⟨I,?_⟩;refine Af (z:=(k+1:Nat)) ?_;exact⟨(),trivial,Ac (hM:=Fy hN2)⟩
 ·rintro- -;refine Ao [2,3] (tqs 0 4<| .op 4 .z) [0,1] [] [] [] λ_=>?_;refine tqc I5 (λ_=>RE n l s) ?_;refine tqQ<|tqQ<|Yb (Oa Qo I ?_);exact Fg (Al [] I2 λ_=>⟨I,I⟩)
variable {F0:List Fact} {a:Option Addr} {cap g:Nat} {lb:List Value}
theorem Aj6 (hg:Ah tb.fn g=some ()) (p:Int->Bool) {xs:List Int} (hlen:xs.length<=1099511627776) (hc:∀x∈xs,Cm prog g (.int .i64 x::lb) [] F0 (Bd (.bool (p x)))):
  Cm prog 332 [.slice a xs.length cap,.func (.func g) #[] lb.toArray] [] (slF Bt 1 (.slice a xs.length cap) xs::F0) (Bd (.int .i64 (Hl p xs))):=by
 refine tqm [.o (.v (.slice a xs.length cap)),.o (.v (.func (.func g) #[] lb.toArray))] func332 ntmps332 λ_ _=>?_;refine Br (γ:=Nat) (λk=>k<=xs.length/\∀(j:Nat) x,j<k->xs[j]? =some x->p x=false) (λk=>[(8,.o (.v (.int .i64 k)))]) (λ_=>[]) (λ_=>[]) (λk=>xs.length- k) 0 ⟨Ax _,λj x hj=>by omega⟩ Ac ?_;rintro k ⟨hk,hno⟩;refine Ai (λh1=>?_) λh1=>?_
 ·obtain⟨x,hx⟩:=A9 (xs:=xs) (k:=k)
  skip
  refine Dk (slF Bt 1 (.slice a xs.length cap) xs) (B1 hx) ?_;rintro ⟨b,off,rfl⟩;refine Au Bb ?_;refine Au (Ce (slF Bt 1 (.slice (some ⟨b,off,none⟩) xs.length cap) xs) (Eg hx (j:=0) I)) ?_;have hc2:∀ρ:Nm,Cm prog g (Gn ρ [] [TV.o (.v (.int .i64 x))] (lb.map PV.v)) [] F0 (Bd (.bool (p x))):=λρ=>by
   have e:Gn ρ [] [TV.o (.v (.int .i64 x))] (lb.map PV.v)=.int .i64 x::lb:=(Qs ρ [TV.o (.v (.int .i64 x))] lb).trans I;rw[e];exact hc x (Av hx)
  refine tqc ⟨I,I,I,I,hg⟩ (λρ=>hc2 ρ) (hF0:=λf hf=>B3 _ hf) ?_;cases hb:p x
  ·refine Af (z:=(k+1:Nat)) ?_;refine⟨k+1,⟨tqO,λj y hj hy=>?_⟩,tqP,Ac⟩;rcases Bg.1 hj with h|rfl
   ·exact hno j y h hy
   ·rw[hx] at hy;cases hy;exact hb
  ·exact Al [] I2 λ_=>⟨by rw[No hno hx hb];rfl,I⟩
 ·obtain rfl:k=xs.length:=by omega
  exact Al [] I2 λ_=>⟨by rw[Mg λj x hj=>hno j x (Aa.1 hj).1 hj];rfl,I⟩
theorem Aj5 (hg:Ah tb.fn g=some ()) (p:Int->Bool) {xs:List Int} (hlen:xs.length<=1099511627776) (hc:∀x∈xs,Cm prog g (.int .i64 x::lb) [] F0 (Bd (.bool (p x)))):
  Cm prog 305 [.slice a xs.length cap,.func (.func g) #[] lb.toArray] [] (slF Bt 1 (.slice a xs.length cap) xs::F0) (Bd (.bool (xs.any p))):=by
 refine tqm [.o (.v (.slice a xs.length cap)),.o (.v (.func (.func g) #[] lb.toArray))] func305 ntmps305 λ_ _=>?_;refine tqc I5 (λ_=>Aj6 hg p hlen hc) ?_;exact Al [] I2 λ_=>⟨Bx Hq,I⟩
theorem QD (n l s k:Int) (b:Nat):Cm prog 306 [.int .i64 k,.pointer (some ⟨b,0,none⟩)] [] [B9 b [.int .i64 n,.int .i64 l,.int .i64 s] 23] (Bd (.bool (!Fk n k))):=by
 refine tqm [.o (.v (.int .i64 k)),.o (.v (.pointer (some ⟨b,0,none⟩)))] func306 ntmps306 λ_ _=>?_;refine Ai (λ_=>?_) λ_=>?_
 ·repeat' (first|refine Ai (λ_=>?_) (λ_=>?_)|refine A7 (λ_=>?_) (λ_=>?_)|(refine Al [] I2 λ_=>⟨Bx ?_,rfl⟩;(rw[Be];simp[Fk] at* <;>(try dsimp only at*)<;>first|omega|(simp_all;done)|(simp_all;omega)))|fail)
 refine Au (Ce (B9 b [.int .i64 n,.int .i64 l,.int .i64 s] 23) λA w h=>L9 (o:=0) I _ w h) ?_;repeat' (first|refine Ai (λ_=>?_) (λ_=>?_)|refine A7 (λ_=>?_) (λ_=>?_)|(refine Al [] I2 λ_=>⟨Bx ?_,rfl⟩;(rw[Be];simp[Fk] at* <;>(try dsimp only at*)<;>first|omega|(simp_all;done)|(simp_all;omega)))|fail)
theorem TQ (n l s:Int) (a:Option Addr) (cap:Nat) (xs:List Int) (hx:xs.length<=1000):Cm prog 266 [.agg #[.int .i64 n,.int .i64 l,.int .i64 s],.slice a xs.length cap] [] [slF Bt 1 (.slice a xs.length cap) xs] (Bd (.bool (Ef n l s&&xs.all (Fk n)))):=by
 refine tqm [.g [.v (.int .i64 n),.v (.int .i64 l),.v (.int .i64 s)],.o (.v (.slice a xs.length cap))] func266 ntmps266 λ_ _=>?_;refine tqc I5 (λ_=>Qz n l s) ?_;unfold Nu;cases hs:Ef n l s
 ·exact tqE
 refine Aj (F0:=[slF Bt 1 (.slice a xs.length cap) xs]) [0] [] I7 (λρ=>(Aj5 (F0:=[B9 (ρ 0) [.int .i64 n,.int .i64 l,.int .i64 s] 23]) (lb:=[.pointer (some ⟨ρ 0,0,none⟩)]) I (λk=> !Fk n k) tqO λk _=>QD n l s k (ρ 0)).facts λA w h f hf=>h f (by simp[Mh] at hf⊢;exact hf.symm)) (hno:=.inr tqH) ?_;rintro e cs F1 _ ⟨rfl,rfl⟩;have e:(!xs.any λk=> !Fk n k)=xs.all (Fk n):=by rw[Lu]
 rw[<-e];cases xs.any λk=> !Fk n k
 ·exact tqE
 ·exact tqE
structure Own where
 node:Int
 hop:Int
def X5 (o:Own):List Value:=[.int .i64 o.node,.int .i64 o.hop]
def SL (n:Int):Bool:=decide (0<=n)&&decide (n<=1099511627776)
def X4 (n l s:Int) (o:Own):Bool:=Ef n l s&&Fk n o.node&&SL o.hop
def Ahn (n l s:Int) (o:Own):Int:=bif X4 n l s o then 0 else 2
theorem NL (n l s k:Int) (b:Nat):Cm prog 266 [.agg #[.int .i64 n,.int .i64 l,.int .i64 s],.slice (some ⟨b,0,none⟩) 1 1] [] [B9 b [.int .i64 k] 3] (Bd (.bool (Ef n l s&&Fk n k))):=by
 have h:=(TQ n l s (some ⟨b,0,none⟩) 1 [k] tqS).facts (F0:=[B9 b [.int .i64 k] 3]) (λA w h f hf=>by
  cases Bc.1 hf;exact Aib (enc:=Bt) (xs:=[k]) (cells:=[.int .i64 k]) (t:=3) I (λ_=>I) I (h _ (Bc.2 I)))
 simpa using h
theorem Aa6 (n:Int):Cm prog 269 [.int .i64 n] [] [] (Bd (.bool (SL n))):=by
 refine tqm [.o (.v (.int .i64 n))] func269 ntmps269 λ_ _=>?_;repeat' (first|refine Ai (λ_=>?_) (λ_=>?_)|refine A7 (λ_=>?_) (λ_=>?_)|(refine Al [] I2 λ_=>⟨Bx ?_,rfl⟩;(rw[Be];simp[SL] at* <;>(try dsimp only at*)<;>first|omega|(simp_all;done)|(simp_all;omega)))|fail)
theorem TP (n l s:Int) (o:Own):Cm prog 217 [.agg #[.int .i64 n,.int .i64 l,.int .i64 s],.agg (X5 o).toArray] [] [] (Bd (.bool (X4 n l s o))):=by
 refine tqm [.g [.v (.int .i64 n),.v (.int .i64 l),.v (.int .i64 s)],.g [.v (.int .i64 o.node),.v (.int .i64 o.hop)]] func217 ntmps217 λ_ _=>?_;refine Aj [2] [] I7 (λρ=>NL n l s o.node (ρ 2)) (hno:=.inr tqH) ?_;rintro e cs F1 _ ⟨rfl,rfl⟩;unfold X4;cases h:Ef n l s&&Fk n o.node
 ·exact tqE
 refine tqc I5 (λ_=>Aa6 o.hop) ?_;exact tqE
theorem TO (n l s:Int) (o:Own):Cm prog 144 [.agg #[.int .i64 n,.int .i64 l,.int .i64 s],.agg (X5 o).toArray] [] [] (Bd (.int .i64 (Ahn n l s o))):=by
 refine tqm [.g [.v (.int .i64 n),.v (.int .i64 l),.v (.int .i64 s)],.g [.v (.int .i64 o.node),.v (.int .i64 o.hop)]] func144 ntmps144 λ_ _=>?_;refine tqc I5 (λ_=>TP n l s o) ?_;unfold Ahn;cases h:X4 n l s o
 ·exact tqE
 ·exact tqE
theorem Ae2 (n l s k:Int):Cm prog 99 [.agg #[.int .i64 n,.int .i64 l,.int .i64 s],.int .i64 k] [] [] (Bd (.bool (Fk n k))):=by
 refine tqm [.g [.v (.int .i64 n),.v (.int .i64 l),.v (.int .i64 s)],.o (.v (.int .i64 k))] func99 ntmps99 λ_ _=>?_;repeat' (first|refine Ai (λ_=>?_) (λ_=>?_)|refine A7 (λ_=>?_) (λ_=>?_)|(refine Al [] I2 λ_=>⟨Bx ?_,rfl⟩;(rw[Be];simp[Fk] at* <;>(try dsimp only at*)<;>first|omega|(simp_all;done)|(simp_all;omega)))|fail)
theorem Ahw (n:Int):Cm prog 100 [.int .i64 n] [] [] (Bd (.bool (SL n))):=by
 refine tqm [.o (.v (.int .i64 n))] func100 ntmps100 λ_ _=>?_;repeat' (first|refine Ai (λ_=>?_) (λ_=>?_)|refine A7 (λ_=>?_) (λ_=>?_)|(refine Al [] I2 λ_=>⟨Bx ?_,rfl⟩;(rw[Be];simp[SL] at* <;>(try dsimp only at*)<;>first|omega|(simp_all;done)|(simp_all;omega)))|fail)
theorem Ahy (n l s:Int) (o:Own):Cm prog 46 [.agg #[.int .i64 n,.int .i64 l,.int .i64 s],.agg (X5 o).toArray] [] [] (Bd (.bool (X4 n l s o))):=by
 refine tqm [.g [.v (.int .i64 n),.v (.int .i64 l),.v (.int .i64 s)],.g [.v (.int .i64 o.node),.v (.int .i64 o.hop)]] func46 ntmps46 λ_ _=>?_;refine tqc I5 (λ_=>Ss n l s) ?_;unfold X4;cases h:Ef n l s
 ·exact tqE
 refine tqc I5 (λ_=>Ae2 n l s o.node) ?_;cases h:Fk n o.node
 ·exact tqE
 refine tqc I5 (λ_=>Ahw o.hop) ?_;exact tqE
theorem Ms {α:Type} {p:α->Bool} {xs:List α} {k:Nat} {x:α} (hx:xs[k]? =some x) (hp:p x=false):xs.all p=false:=by
 rw[Bo];intro h;rw[A6.1 h x (Av hx)] at hp;cases hp
theorem Rf {α:Type} {p:α->Bool} {xs:List α} {k:Nat} (hk:xs.length<=k) (h:∀(j:Nat) x,j<k->xs[j]? =some x->p x=true):xs.all p=true:=by
 rw[A6];intro x hx;obtain⟨j,hj⟩:=B6.1 hx;exact h j x (by have:=(Aa.1 hj).1;omega) hj
theorem Hh:∀x,(Bv x).length=4:=λ_=>I
def Hn (n l s:Int) (xs:List Sta):Bool:=Ef n l s&&decide ((xs.length:Int)=n*s)&&xs.all Gk
theorem Sx {n l s:Int} (h:Ef n l s=true):((H8 n l s).length:Int)=n*s:=by
 have hs:=In h;unfold H8;rw[Bi h,M0,Q6,V0 tqO,V0 tqO]
theorem Ado (hg:Ah tb.fn g=some ()) (p:Sta->Bool) {xs:List Sta} (hlen:xs.length<=1099511627776) (hc:∀x∈xs,Cm prog g (.agg (Bv x).toArray::lb) [] F0 (Bd (.bool (p x)))):
  Cm prog 320 [.slice a xs.length cap,.func (.func g) #[] lb.toArray] [] (slF Bv 4 (.slice a xs.length cap) xs::F0) (Bd (.int .i64 (Hl p xs))):=by
 refine tqm [.o (.v (.slice a xs.length cap)),.o (.v (.func (.func g) #[] lb.toArray))] func320 ntmps320 λ_ _=>?_;refine Br (γ:=Nat) (λk=>k<=xs.length/\∀(j:Nat) x,j<k->xs[j]? =some x->p x=false) (λk=>[(8,.o (.v (.int .i64 k)))]) (λ_=>[]) (λ_=>[]) (λk=>xs.length- k) 0 ⟨Ax _,λj x hj=>by omega⟩ Ac ?_;rintro k ⟨hk,hno⟩;refine Ai (λh1=>?_) λh1=>?_
 ·obtain⟨x,hx⟩:=A9 (xs:=xs) (k:=k)
  skip
  refine Dk (slF Bv 4 (.slice a xs.length cap) xs) (B1 hx) ?_;rintro ⟨b,off,rfl⟩;refine Au Bb ?_;refine Au (Cu (vs:=Bv x) (slF Bv 4 (.slice (some ⟨b,off,none⟩) xs.length cap) xs) (Du hx)) ?_;have hc2:∀ρ:Nm,Cm prog g (Gn ρ [] [TV.g [.v (.int .i64 x.over),.v (.bool x.pend),.v (.int .i64 x.mode),.v (.int .i64 x.prio)]] (lb.map PV.v)) [] F0 (Bd (.bool (p x))):=λρ=>by
   have e:Gn ρ [] [TV.g [.v (.int .i64 x.over),.v (.bool x.pend),.v (.int .i64 x.mode),.v (.int .i64 x.prio)]] (lb.map PV.v)=.agg (Bv x).toArray::lb:=(Qs ρ [TV.g [.v (.int .i64 x.over),.v (.bool x.pend),.v (.int .i64 x.mode),.v (.int .i64 x.prio)]] lb).trans I;rw[e];exact hc x (Av hx)
  refine tqc ⟨I,I,I,I,hg⟩ (λρ=>hc2 ρ) (hF0:=λf hf=>B3 _ hf) ?_;cases hb:p x
  ·refine Af (z:=(k+1:Nat)) ?_;refine⟨k+1,⟨tqO,λj y hj hy=>?_⟩,tqP,Ac⟩;rcases Bg.1 hj with h|rfl
   ·exact hno j y h hy
   ·rw[hx] at hy;cases hy;exact hb
  ·exact Al [] I2 λ_=>⟨by rw[No hno hx hb];rfl,I⟩
 ·obtain rfl:k=xs.length:=by omega
  exact Al [] I2 λ_=>⟨by rw[Mg λj x hj=>hno j x (Aa.1 hj).1 hj];rfl,I⟩
theorem Adn (hg:Ah tb.fn g=some ()) (p:Sta->Bool) {xs:List Sta} (hlen:xs.length<=1099511627776) (hc:∀x∈xs,Cm prog g (.agg (Bv x).toArray::lb) [] F0 (Bd (.bool (p x)))):
  Cm prog 278 [.slice a xs.length cap,.func (.func g) #[] lb.toArray] [] (slF Bv 4 (.slice a xs.length cap) xs::F0) (Bd (.bool (xs.any p))):=by
 refine tqm [.o (.v (.slice a xs.length cap)),.o (.v (.func (.func g) #[] lb.toArray))] func278 ntmps278 λ_ _=>?_;refine tqc I5 (λ_=>Ado hg p hlen hc) ?_;exact Al [] I2 λ_=>⟨Bx Hq,I⟩
theorem VA (x:Sta):Cm prog 279 [.agg (Bv x).toArray] [] [] (Bd (.bool (!Gk x))):=by
 refine tqm [.g [.v (.int .i64 x.over),.v (.bool x.pend),.v (.int .i64 x.mode),.v (.int .i64 x.prio)]] func279 ntmps279 λ_ _=>?_;refine tqc I5 (λ_=>LV x) ?_;unfold Abv;cases h:Gk x
 ·exact tqE
 ·exact tqE
theorem XA (n l s:Int) (a:Option Addr) (cap:Nat) (xs:List Sta) (hx:xs.length<=1000000):Cm prog 212 [.agg #[.int .i64 n,.int .i64 l,.int .i64 s],.slice a xs.length cap] [] [slF Bv 4 (.slice a xs.length cap) xs] (Bd (.bool (Hn n l s xs))):=by
 refine tqm [.g [.v (.int .i64 n),.v (.int .i64 l),.v (.int .i64 s)],.o (.v (.slice a xs.length cap))] func212 ntmps212 λ_ _=>?_;refine tqc I5 (λ_=>BQ n l s) ?_;unfold Hn Nu;cases hs:Ef n l s
 ·exact tqE
 rw[<-Sx hs];refine A7 (λh1=>?_) λh1=>?_;rotate_left
 ·have e:decide ((xs.length:Int)=((H8 n l s).length:Int))=false:=by simp at h1;simpa using h1
  rw[e];exact tqE
 have e:decide ((xs.length:Int)=((H8 n l s).length:Int))=true:=by simp at h1;simpa using h1
 rw[e];refine tqc I5 (λ_=>Adn (F0:=[]) (lb:=[]) (a:=a) (cap:=cap) (xs:=xs) I (λx=> !Gk x) tqO λx _=>VA x) ?_;have e2:(!xs.any λx=> !Gk x)=xs.all Gk:=by rw[Lu]
 rw[<-e2];cases xs.any λx=> !Gk x
 ·exact tqE
 ·exact tqE
theorem LB (n l s:Int) (a:Option Addr) (cap:Nat) (xs:List Sta) (hx:xs.length<=1000000):Cm prog 47 [.agg #[.int .i64 n,.int .i64 l,.int .i64 s],.slice a xs.length cap] [] [slF Bv 4 (.slice a xs.length cap) xs] (Bd (.bool (Hn n l s xs))):=by
 refine tqm [.g [.v (.int .i64 n),.v (.int .i64 l),.v (.int .i64 s)],.o (.v (.slice a xs.length cap))] func47 ntmps47 λ_ _=>?_;refine tqc I5 (λ_=>Ss n l s) ?_;unfold Hn;cases hs:Ef n l s
 ·exact tqE
 have h:=In hs;have h0:0<=n*s:=Sa tqO tqO;have h1:n*s<=64*4:=Ph tqO tqO tqO tqO;refine Af (hz:=Ey (r:=n*s) tqO tqO) (ho:=I) (hx:=I) (hy:=I) (hr:=I) ?_;refine A7 (λh1=>?_) λh1=>?_
 ·have e:decide ((xs.length:Int)=n*s)=false:=by simp at h1;simpa using h1
  rw[e];exact tqE
 have e:decide ((xs.length:Int)=n*s)=true:=by simp at h1;simpa using h1
 rw[e];refine Br (γ:=Nat) (λk=>k<=xs.length/\∀(j:Nat) x,j<k->xs[j]? =some x->Gk x=true) (λk=>[(5,.o (.v (.int .i64 k)))]) (λ_=>[]) (λ_=>[]) (λk=>xs.length- k) 0 ⟨Ax _,λj x hj=>by omega⟩ Ac ?_;rintro k ⟨hk,hyes⟩;refine Ai (λh1=>?_) λh1=>?_
 ·obtain⟨x,hx⟩:=A9 (xs:=xs) (k:=k);refine Dk (slF Bv 4 (.slice a xs.length cap) xs) (B1 hx) ?_;rintro ⟨b,off,rfl⟩;refine Au Bb ?_;refine Au (Cu (vs:=Bv x) (slF Bv 4 (.slice (some ⟨b,off,none⟩) xs.length cap) xs) (Du hx)) ?_;refine tqc I5 (λ_=>Ahz x) ?_;cases hpx:Gk x
  ·have hall:xs.all Gk=false:=Ms hx hpx
   (rw[hall];exact Al [] I2 λ_=>⟨I,I⟩)
  ·refine Af (z:=(k+1:Nat)) ?_;refine⟨k+1,⟨tqO,λj y hj hy=>?_⟩,tqP,Ac⟩;rcases Bg.1 hj with h|rfl
   ·exact hyes j y h hy
   ·rw[hx] at hy;cases hy;exact hpx
 ·have hall:xs.all Gk=true:=Rf tqO hyes
  (rw[hall];exact Al [] I2 λ_=>⟨I,I⟩)
section
variable {X:Fx} {o:Oper} {T:TE} {L:LE} {n:Nat} {F:List Fact} {D:DF} {K:KK} {k:KS}
theorem XL {t:TypeId} {x:Operand} {j off m e sz:Nat} (ho:o.op=.slice t x none none none) (ha:Ah X.tab.ar t=some (m,e,sz)) (hx:evS T x=some (.o (.p j off))):Yd X o T L F (.o (.s j off m m)):=by
 refine⟨by simp[Cw,ho],λA ρ a w h0=>?_⟩;obtain⟨h1,i,h2,h3⟩:=Zv (X.ok.ar _ _ ha);simp only at h1 h2 h3;have e1:=h0.ev hx;simp only[TV.den,SV.den] at e1;have hal:X.P.arrayLen t=m:=by unfold Program.arrayLen;rw[h1]
 have hel:X.P.elem t=e:=by unfold Program.elem;rw[h1]
 have h4:X.P.underlying t=some (.array (X.P.arrayLen t) (X.P.elem t)):=by rw[hal,hel];exact h1
 have hs:(sizeOf (X.P.elem t)).run X.P w=.ok i.size w:=by rw[hel];simp[sizeOf,typeInfo,h2]
 simp only[execOp,ho,Kh,e1,Ba,run_sliceAt_array_all (ht:=h4),hs,An,Bh,TV.den,SV.den,hal,slicedAt];by_cases hm:m=0
 ·simp[hm]
 ·simp[hm,H5]
theorem Eu {t ct:TypeId} {x:Operand} {b o':Nat} {v:Value} {cs:List Value} (h:R1 X o T L n F D k (.o (.v v))) (ho:o.op=.load t x:=by exact I) (hk:Ah X.tab.kd t=some none:=by exact I) (hx:evS T x=some (.o (.v (.pointer (some ⟨b,o',none⟩)))):=by exact I) (hv:cs[o']? =some v:=by exact I) (hf:B9 b cs ct∈F:=by exact tqS):OJs X o T L n F D k K:=
 Au (Ce (B9 b cs ct) (hf:=hf) (λA w h=>L9 hv A w h) (ho:=ho) (hk:=hk) (hx:=hx)) h
theorem Nc {t ct:TypeId} {x:Operand} {b o':Nat} {vs cs:List Value} (h:R1 X o T L n F D k (.g (vs.map SV.v))) (ho:o.op=.load t x:=by exact I) (hk:Ah X.tab.kd t=some (some vs.length):=by exact I) (hx:evS T x=some (.o (.v (.pointer (some ⟨b,o',none⟩)))):=by exact I) (hv:(cs.drop o').take vs.length=vs:=by exact I) (hf:B9 b cs ct∈F:=by exact tqS):OJs X o T L n F D k K:=
 Au (Cu (B9 b cs ct) (hf:=hf) (λA w h j u hu=>by
  have hj:=(Aa.1 hu).1;refine L9 ?_ A w h;rw[<-hv,Db hj,E3] at hu;exact hu) (ho:=ho) (hk:=hk) (hx:=hx)) h
end
theorem Sj:Mf prog 9 31=some [4,4,8]:=tqK
theorem Yh:Ui prog 31=true:=tqK
structure Slt where
 use:Int
 state:Int
 mode:Int
 prio:Int
 due:Int
 ctr:Ctr
def Bm (x:Slt):List Value:=[.int .i64 x.use,.int .i64 x.state,.int .i64 x.mode,.int .i64 x.prio,.int .i64 x.due,.int .i64 x.ctr.value,.int .i64 x.ctr.floor,.int .u64 x.ctr.version]
def Od (x:Slt):Bool:=decide (x.state=1)||decide (x.state=2)
def Iz (x:Slt):Sta:=bif Od x then⟨x.use- 1,true,x.mode,x.prio⟩ else⟨x.use,false,0,0⟩
def Qf (x:Slt):Bool:=(decide (0<=x.use)&&decide (x.use<=1099511627776))&&(decide (0<=x.state)&&decide (x.state<=5))&&((x.use == 0) == (x.state == 0))
def LS (x:Slt):Bool:=bif Od x then Gk (Iz x) else decide (x.mode=0)&&decide (x.prio=0)
def LT (x:Slt):Bool:=decide (x.due=0)||(decide (x.state=1)&&Iy x.due)
def LU (x:Slt):Bool:=bif decide (x.state=2) then Ho x.ctr else decide (x.ctr.value=0)&&decide (x.ctr.floor=0)&&decide (x.ctr.version=0)
def Hr (x:Slt):Bool:=Qf x&&LS x&&LT x&&LU x
theorem Am7 (x:Slt) (b:Nat):Cm prog 181 [.pointer (some ⟨b,0,none⟩)] [] [B9 b (Bm x) 197] (Bd (.bool (Qf x))):=by
 refine tqm [.o (.v (.pointer (some ⟨b,0,none⟩)))] func181 ntmps181 λ_ _=>?_
 (refine Eu (cs:=Bm x) (b:=b) (ct:=197) ?_)
 refine Ai (λh0=>?_) λh0=>?_;rotate_left
 ·have e:Qf x=false:=by simp only[Qf,Ky,Gc];omega
  rw[e];exact tqE
 (refine Eu (cs:=Bm x) (b:=b) (ct:=197) ?_)
 refine Ai (λh1=>?_) λh1=>?_;rotate_left
 ·have e:Qf x=false:=by simp only[Qf,Ky,Gc];omega
  rw[e];exact tqE
 (refine Eu (cs:=Bm x) (b:=b) (ct:=197) ?_)
 refine Ai (λh2=>?_) λh2=>?_;rotate_left
 ·have e:Qf x=false:=by simp only[Qf,Ky,Gc];omega
  rw[e];exact tqE
 (refine Eu (cs:=Bm x) (b:=b) (ct:=197) ?_)
 refine Ai (λh3=>?_) λh3=>?_;rotate_left
 ·have e:Qf x=false:=by simp only[Qf,Ky,Gc];omega
  rw[e];exact tqE
 (refine Eu (cs:=Bm x) (b:=b) (ct:=197) ?_)
 (refine Eu (cs:=Bm x) (b:=b) (ct:=197) ?_)
 refine B8 (R9 tqK I I I I) ?_;have e:Qf x=((x.use == 0) == (x.state == 0)):=by
  simp only[Qf,D4 h0,D4 h1,D4 h2,D4 h3,C8]
 rw[e];exact tqE
theorem Xu (x:Slt):Cm prog 114 [.agg (Bm x).toArray] [] [] (Bd (.bool (Od x))):=by
 refine tqm [.g [.v (.int .i64 x.use),.v (.int .i64 x.state),.v (.int .i64 x.mode),.v (.int .i64 x.prio),.v (.int .i64 x.due),.v (.int .i64 x.ctr.value),.v (.int .i64 x.ctr.floor),.v (.int .u64 x.ctr.version)]] func114 ntmps114 λ_ _=>?_;repeat' (first|refine Ai (λ_=>?_) (λ_=>?_)|refine A7 (λ_=>?_) (λ_=>?_)|(refine Al [] I2 λ_=>⟨Bx ?_,rfl⟩;(rw[Be];simp[Od] at* <;>(try dsimp only at*)<;>first|omega|(simp_all;done)|(simp_all;omega)))|fail)
theorem PP (x:Slt) (hx: -9223372036854775808<x.use/\x.use<=9223372036854775807):Cm prog 183 [.agg (Bm x).toArray] [] [] (Bd (.agg (Bv (Iz x)).toArray)):=by
 refine tqm [.g [.v (.int .i64 x.use),.v (.int .i64 x.state),.v (.int .i64 x.mode),.v (.int .i64 x.prio),.v (.int .i64 x.due),.v (.int .i64 x.ctr.value),.v (.int .i64 x.ctr.floor),.v (.int .u64 x.ctr.version)]] func183 ntmps183 λ_ _=>?_;refine tqc I5 (λ_=>Xu x) ?_;unfold Iz;cases h:Od x
 ·exact tqE
 ·refine Af (hz:=Ey (r:=x.use- 1) tqO tqO) (ho:=I) (hx:=I) (hy:=I) (hr:=I) ?_;exact tqE
theorem Abq (n:Int):Cm prog 185 [.int .i64 n] [] [] (Bd (.bool (Iy n))):=by
 refine tqm [.o (.v (.int .i64 n))] func185 ntmps185 λ_ _=>?_;refine Aj [] [] I7 (λ_=>PR n) ?_;rintro e cs F1 _ ⟨v,rfl,rfl⟩;cases h:Iy n
 ·exact tqE
 ·exact tqE
theorem Am8 (x:Slt) (hx: -9223372036854775808<x.use/\x.use<=9223372036854775807) (b:Nat):Cm prog 182 [.pointer (some ⟨b,0,none⟩)] [] [B9 b (Bm x) 197] (Bd (.bool (LS x))):=by
 refine tqm [.o (.v (.pointer (some ⟨b,0,none⟩)))] func182 ntmps182 λ_ _=>?_;refine Nc (vs:=Bm x) (cs:=Bm x) (b:=b) (ct:=197) ?_;refine tqc I5 (λ_=>Xu x) ?_;unfold LS;cases h:Od x
 ·(refine Eu (cs:=Bm x) (b:=b) (ct:=197) ?_)
  refine A7 (λh1=>?_) λh1=>?_
  ·(refine Eu (cs:=Bm x) (b:=b) (ct:=197) ?_)
   refine A7 (λh2=>?_) λh2=>?_
   ·have e:(decide (x.mode=0)&&decide (x.prio=0))=true:=by simp at h1 h2;simp[h1,h2]
    rw[e];exact tqE
   ·refine Nc (vs:=Bm x) (cs:=Bm x) (b:=b) (ct:=197) ?_;refine tqc I5 (λ_=>Xu x) ?_;rw[h];have e:(decide (x.mode=0)&&decide (x.prio=0))=false:=by simp at h1 h2;simp[h2]
    rw[e];exact tqE
  ·refine Nc (vs:=Bm x) (cs:=Bm x) (b:=b) (ct:=197) ?_;refine tqc I5 (λ_=>Xu x) ?_;rw[h];have e:(decide (x.mode=0)&&decide (x.prio=0))=false:=by simp at h1;simp[h1]
   rw[e];exact tqE
 ·refine Nc (vs:=Bm x) (cs:=Bm x) (b:=b) (ct:=197) ?_;refine tqc I5 (λ_=>Xu x) ?_;rw[h];refine Nc (vs:=Bm x) (cs:=Bm x) (b:=b) (ct:=197) ?_;refine tqc I5 (λ_=>PP x hx) ?_;refine tqc I5 (λ_=>LV (Iz x)) ?_;unfold Abv;cases h2:Gk (Iz x)
  ·exact tqE
  ·exact tqE
theorem Am9 (x:Slt) (b:Nat):Cm prog 184 [.pointer (some ⟨b,0,none⟩)] [] [B9 b (Bm x) 197] (Bd (.bool (LT x))):=by
 refine tqm [.o (.v (.pointer (some ⟨b,0,none⟩)))] func184 ntmps184 λ_ _=>?_;repeat' (first|refine Ai (λ_=>?_) (λ_=>?_)|refine A7 (λ_=>?_) (λ_=>?_)|(refine Al [] I2 λ_=>⟨Bx ?_,rfl⟩;(rw[Be];simp[LT] at* <;>(try dsimp only at*)<;>first|omega|(simp_all;done)|(simp_all;omega)))|first|(refine Eu (cs:=Bm x) (b:=b) (ct:=197) ?_)|(refine Aj [] [] I7 (λ_=>Abq _) ?_;rintro e cs F1 _ ⟨rfl,rfl⟩))
theorem Ana (x:Slt) (b:Nat):Cm prog 186 [.pointer (some ⟨b,0,none⟩)] [] [B9 b (Bm x) 197] (Bd (.bool (LU x))):=by
 refine tqm [.o (.v (.pointer (some ⟨b,0,none⟩)))] func186 ntmps186 λ_ _=>?_;unfold LU
 (refine Eu (cs:=Bm x) (b:=b) (ct:=197) ?_)
 refine A7 (λh1=>?_) λh1=>?_
 ·have e:decide (x.state=2)=true:=by simpa using h1
  rw[e];refine Nc (vs:=Ke x.ctr) (cs:=Bm x) (b:=b) (ct:=197) ?_;refine tqc I5 (λ_=>Vd x.ctr) ?_;unfold S9;cases h2:Ho x.ctr
  ·(refine Eu (cs:=Bm x) (b:=b) (ct:=197) ?_)
   refine A7 (λh3=>?_) λh3=>?_
   ·simp at h1 h3;exact absurd h1 h3
   ·exact tqE
  ·exact tqE
 ·have e:decide (x.state=2)=false:=by simpa using h1
  rw[e]
  (refine Eu (cs:=Bm x) (b:=b) (ct:=197) ?_)
  refine A7 (λh3=>?_) λh3=>?_
  ·refine Nc (vs:=Ke x.ctr) (cs:=Bm x) (b:=b) (ct:=197) ?_;refine B8 (Zy (xs:=Ke x.ctr) (ys:=[.int .i64 0,.int .i64 0,.int .u64 0]) (r:=(x.ctr.value == 0&&(x.ctr.floor == 0&&(x.ctr.version == 0&&true)))) (ks:=[4,4,8]) Sj Yh I I I (λ_=>I) (λ_=>I) I) ?_;exact Al [] I2 λ_=>⟨Bx (by(rw[Be];simp[Xh])),I⟩
  ·simp at h1 h3;exact absurd h3 h1
def JE (x:Slt):Prop:= -9223372036854775808<x.use/\x.use<=9223372036854775807
theorem Afh (x:Slt):Cm prog 111 [.agg (Bm x).toArray] [] [] (Bd (.bool (Hr x))):=by
 refine tqm [.g [.v (.int .i64 x.use),.v (.int .i64 x.state),.v (.int .i64 x.mode),.v (.int .i64 x.prio),.v (.int .i64 x.due),.v (.int .i64 x.ctr.value),.v (.int .i64 x.ctr.floor),.v (.int .u64 x.ctr.version)]] func111 ntmps111 λ_ _=>?_;refine B8 (u:=.g [.f (.func 181) [] [.p 0 0],.f (.func 182) [] [.p 0 0],.f (.func 184) [] [.p 0 0],.f (.func 186) [] [.p 0 0]]) Ha ?_;refine B8 (XL I I I) ?_;refine En func187 ntmps187 ?_;intro w1 A1 M1 N1 hN1;refine En func265 ntmps265 ?_;intro w2 A2 M2 N2 hN2;refine Hj 5 ?_;refine Au (Ay (i:=0) (hz:=I) (ho:=I) (he:=I) (hx:=I) (hix:=I) (hi:=tqD)) ?_;refine En func188 ntmps188 ?_;intro w30 A30 M30 N30 hN30;refine Aj [0] [] I7 (λρ=>Am7 x (ρ 0)) (hno:=.inr tqH) ?_;rintro e cs F1 _ ⟨rfl,rfl⟩;cases h1:Qf x
 ·have e:Hr x=false:=by simp[Hr,h1]
  rw[e];refine⟨I,?_⟩;refine⟨I,?_⟩;refine⟨I,?_⟩;exact tqE
 refine⟨I,?_⟩;refine Af (z:=1) ?_;have hx:JE x:=by simp[Qf] at h1;unfold JE;omega
 refine Au (Ay (i:=1) (hz:=I) (ho:=I) (he:=I) (hx:=I) (hix:=I) (hi:=tqD)) ?_;refine En func188 ntmps188 ?_;intro w31 A31 M31 N31 hN31;refine Aj [0] [] I7 (λρ=>Am8 x hx (ρ 0)) (hno:=.inr tqH) ?_;rintro e cs F1 _ ⟨rfl,rfl⟩;cases h2:LS x
 ·have e:Hr x=false:=by simp[Hr,h2]
  rw[e];refine⟨I,?_⟩;refine⟨I,?_⟩;refine⟨I,?_⟩;exact tqE
 refine⟨I,?_⟩;refine Af (z:=2) ?_;refine Au (Ay (i:=2) (hz:=I) (ho:=I) (he:=I) (hx:=I) (hix:=I) (hi:=tqD)) ?_;refine En func188 ntmps188 ?_;intro w32 A32 M32 N32 hN32;refine Aj [0] [] I7 (λρ=>Am9 x (ρ 0)) (hno:=.inr tqH) ?_;rintro e cs F1 _ ⟨rfl,rfl⟩;cases h3:LT x
 ·have e:Hr x=false:=by simp[Hr,h3]
  rw[e];refine⟨I,?_⟩;refine⟨I,?_⟩;refine⟨I,?_⟩;exact tqE
 refine⟨I,?_⟩;refine Af (z:=3) ?_;refine Au (Ay (i:=3) (hz:=I) (ho:=I) (he:=I) (hx:=I) (hix:=I) (hi:=tqD)) ?_;refine En func188 ntmps188 ?_;intro w33 A33 M33 N33 hN33;refine Aj [0] [] I7 (λρ=>Ana x (ρ 0)) (hno:=.inr tqH) ?_;rintro e cs F1 _ ⟨rfl,rfl⟩;cases h4:LU x
 ·have e:Hr x=false:=by simp[Hr,h4]
  rw[e];refine⟨I,?_⟩;refine⟨I,?_⟩;refine⟨I,?_⟩;exact tqE
 refine⟨I,?_⟩;refine Af (z:=4) ?_;have e:Hr x=true:=by simp[Hr,h1,h2,h3,h4]
 rw[e];refine⟨I,?_⟩;refine⟨I,?_⟩;exact tqE
theorem Tj:Jh prog 108:=by
 intro n pe K lb w;have hn:∀w:World,(binOp .neq 20 .nilIface .nilIface).run prog w=.ok (.bool false) w:=λ_=>by kernel_rfl
 refine G4 func108 I trivial λc₀ cs hu=>?_;simp only[ntmps108,E9,Ct,Ep,Nat.reduceAdd,Nat.reduceSub,Fu,Fv,Gz,Gd,Cs,E2];apply Mp;apply Jy;simp[wpOpsSIn,go_sem,recoverD,hu,Exit.thenS];refine Iw I (H9.2 ?_);generalize hQ:(λe a' w'=>bodyPostS _ _ _ _ _ e a' _ w')=Q;have HQ:=Fm hQ;clear hQ
 go_wp2
 rw[<-HQ.out];cases c₀;simp_all [bodyPostS,results,results108]
theorem DO:Ld prog 108 45 45:=by
 intro nn pe K lb n older w R hnn hE hK hR;have hn:∀(w:World) (n:Int),(binOp .neq 20 (.iface 45 (.int .i64 n)) .nilIface).run prog w=.ok (.bool true) w:=λ_ _=>by kernel_rfl
 have ht:∀(w:World) (n:Int),(Instr.typeAssert (.iface 45 (.int .i64 n)) 20 45 true).run prog w=.ok (.tuple #[.int .i64 n,.bool true]) w:=λ_ _=>by kernel_rfl
 have eK:∀args w,(callFunc K args).run prog w=.ok (.enter K args) w:=hE;refine G4 func108 I trivial λc₀ cs hu=>?_;simp only[ntmps108,E9,Ct,Ep,Nat.reduceAdd,Nat.reduceSub,Fu,Fv,Gz,Gd,Cs,E2];apply Mp;apply Jy;simp[wpOpsSIn,go_sem,recoverD,hu,Exit.thenS];refine Iw I (H9.2 ?_);generalize hQ:(λe a' w'=>bodyPostS _ _ _ _ _ e a' _ w')=Q;have HQ:=Fm hQ;clear hQ
 go_wp2_with fail
 refine hK.mono ?_;rintro e w1 ⟨rfl,hr⟩;obtain⟨v,hv⟩:=hR w1 hr;have c1:=BD hv
 go_wp2
 rw[<-HQ.out];cases c₀;simp_all [bodyPostS,results,results108]
 exact⟨w1,hr,I⟩
theorem Nh (b:Bool) (e:Int):Cm prog 115 [.bool b,.int .i64 e] [] [] (CL 45 b e):=by
 refine tqm [.o (.v (.bool b)),.o (.v (.int .i64 e))] func115 ntmps115 λ_ _=>?_;cases b
 ·refine B8 (JO tqK I I) ?_;refine EF I I ?_;exact Jn [] I λ_=>⟨.inr ⟨I,I⟩,I⟩
 ·exact Al [] I2 λ_=>⟨.inl ⟨I,I⟩,I⟩
theorem Dy:∀x,(Bm x).length=8:=λ_=>I
def Jl (n l s:Int) (xs:List Slt):Bool:=Ef n l s&&decide ((xs.length:Int)=s)&&xs.all Hr
theorem Adm (hg:Ah tb.fn g=some ()) (p:Slt->Bool) {xs:List Slt} (hlen:xs.length<=1099511627776) (hc:∀x∈xs,Cm prog g (.agg (Bm x).toArray::lb) [] F0 (Bd (.bool (p x)))):
  Cm prog 112 [.slice a xs.length cap,.func (.func g) #[] lb.toArray] [] (slF Bm 8 (.slice a xs.length cap) xs::F0) (Bd (.int .i64 (Hl p xs))):=by
 refine tqm [.o (.v (.slice a xs.length cap)),.o (.v (.func (.func g) #[] lb.toArray))] func112 ntmps112 λ_ _=>?_;refine Br (γ:=Nat) (λk=>k<=xs.length/\∀(j:Nat) x,j<k->xs[j]? =some x->p x=false) (λk=>[(8,.o (.v (.int .i64 k)))]) (λ_=>[]) (λ_=>[]) (λk=>xs.length- k) 0 ⟨Ax _,λj x hj=>by omega⟩ Ac ?_;rintro k ⟨hk,hno⟩;refine Ai (λh1=>?_) λh1=>?_
 ·obtain⟨x,hx⟩:=A9 (xs:=xs) (k:=k)
  skip
  refine Dk (slF Bm 8 (.slice a xs.length cap) xs) (B1 hx) ?_;rintro ⟨b,off,rfl⟩;refine Au Bb ?_;refine Au (Cu (vs:=Bm x) (slF Bm 8 (.slice (some ⟨b,off,none⟩) xs.length cap) xs) (Du hx)) ?_;have hc2:∀ρ:Nm,Cm prog g (Gn ρ [] [TV.g [.v (.int .i64 x.use),.v (.int .i64 x.state),.v (.int .i64 x.mode),.v (.int .i64 x.prio),.v (.int .i64 x.due),.v (.int .i64 x.ctr.value),.v (.int .i64 x.ctr.floor),.v (.int .u64 x.ctr.version)]] (lb.map PV.v)) [] F0 (Bd (.bool (p x))):=λρ=>by
   have e:Gn ρ [] [TV.g [.v (.int .i64 x.use),.v (.int .i64 x.state),.v (.int .i64 x.mode),.v (.int .i64 x.prio),.v (.int .i64 x.due),.v (.int .i64 x.ctr.value),.v (.int .i64 x.ctr.floor),.v (.int .u64 x.ctr.version)]] (lb.map PV.v)=.agg (Bm x).toArray::lb:=(Qs ρ [TV.g [.v (.int .i64 x.use),.v (.int .i64 x.state),.v (.int .i64 x.mode),.v (.int .i64 x.prio),.v (.int .i64 x.due),.v (.int .i64 x.ctr.value),.v (.int .i64 x.ctr.floor),.v (.int .u64 x.ctr.version)]] lb).trans I;rw[e];exact hc x (Av hx)
  refine tqc ⟨I,I,I,I,hg⟩ (λρ=>hc2 ρ) (hF0:=λf hf=>B3 _ hf) ?_;cases hb:p x
  ·refine Af (z:=(k+1:Nat)) ?_;refine⟨k+1,⟨tqO,λj y hj hy=>?_⟩,tqP,Ac⟩;rcases Bg.1 hj with h|rfl
   ·exact hno j y h hy
   ·rw[hx] at hy;cases hy;exact hb
  ·exact Al [] I2 λ_=>⟨by rw[No hno hx hb];rfl,I⟩
 ·obtain rfl:k=xs.length:=by omega
  exact Al [] I2 λ_=>⟨by rw[Mg λj x hj=>hno j x (Aa.1 hj).1 hj];rfl,I⟩
theorem OP (hg:Ah tb.fn g=some ()) (p:Slt->Bool) {xs:List Slt} (hlen:xs.length<=1099511627776) (hc:∀x∈xs,Cm prog g (.agg (Bm x).toArray::lb) [] F0 (Bd (.bool (p x)))):
  Cm prog 178 [.slice a xs.length cap,.func (.func g) #[] lb.toArray] [] (slF Bm 8 (.slice a xs.length cap) xs::F0) (Bd (.bool (xs.any p))):=by
 refine tqm [.o (.v (.slice a xs.length cap)),.o (.v (.func (.func g) #[] lb.toArray))] func178 ntmps178 λ_ _=>?_;refine tqc I5 (λ_=>Adm hg p hlen hc) ?_;exact Al [] I2 λ_=>⟨Bx Hq,I⟩
theorem EY (x:Slt):Cm prog 179 [.agg (Bm x).toArray] [] [] (Bd (.bool (!Hr x))):=by
 refine tqm [.g [.v (.int .i64 x.use),.v (.int .i64 x.state),.v (.int .i64 x.mode),.v (.int .i64 x.prio),.v (.int .i64 x.due),.v (.int .i64 x.ctr.value),.v (.int .i64 x.ctr.floor),.v (.int .u64 x.ctr.version)]] func179 ntmps179 λ_ _=>?_;refine tqc I5 (λ_=>Afh x) ?_;exact tqE
theorem Acp (q:Bool) (b:Nat):Cm prog 180 [.slice (some ⟨b,0,none⟩) 1 1,.bool false] [] [B9 b [.bool q] 4] (Bd (.bool (!q))):=by
 refine tqm [.o (.v (.slice (some ⟨b,0,none⟩) 1 1)),.o (.v (.bool false))] func180 ntmps180 λ_ _=>?_;refine En func264 ntmps264 ?_;intro w1 A1 M1 N1 hN1;refine Hj 2 ?_;refine Au (Bb (i:=0) (hz:=I) (ho:=I) (he:=I) (hx:=I) (hix:=I) (hi:=tqD)) ?_;refine Eu (cs:=[.bool q]) (b:=b) (ct:=4) ?_;cases q
 ·refine B8 (R9 tqK I I I I) ?_;refine⟨I,?_⟩;exact tqE
 ·refine B8 (R9 tqK I I I I) ?_;refine Af (z:=1) ?_;refine⟨I,?_⟩;exact tqE
theorem ZB:Cm prog 180 [.slice none 0 0,.bool false] [] [] (Bd (.bool false)):=by
 refine tqm [.o (.v (.slice none 0 0)),.o (.v (.bool false))] func180 ntmps180 λ_ _=>?_;refine En func264 ntmps264 ?_;intro w1 A1 M1 N1 hN1;refine Hj 1 ?_;refine⟨I,?_⟩;exact tqE
theorem UY (n l s:Int) (a:Option Addr) (cap:Nat) (xs:List Slt) (hx:xs.length<=1000000):Cm prog 110 [.agg #[.int .i64 n,.int .i64 l,.int .i64 s],.slice a xs.length cap,.slice none 0 0] [] [slF Bm 8 (.slice a xs.length cap) xs] (CL 45 (Jl n l s xs) 2):=by
 refine tqm [.g [.v (.int .i64 n),.v (.int .i64 l),.v (.int .i64 s)],.o (.v (.slice a xs.length cap)),.o (.v (.slice none 0 0))] func110 ntmps110 λ_ _=>?_;refine tqc I5 (λ_=>Qz n l s) ?_;unfold Jl Nu;cases hs:Ef n l s
 ·refine Aj [] [] I7 (λ_=>Nh false 2) ?_;rintro e cs F1 _ ⟨⟨h,_⟩|⟨_,rfl⟩,rfl⟩
  ·cases h
  ·exact Jn [] I λ_=>⟨.inr ⟨I,I⟩,I⟩
 refine A7 (λh1=>?_) λh1=>?_;rotate_left
 ·have e:decide ((xs.length:Int)=s)=false:=by simp at h1;simpa using h1
  rw[e];refine Aj [] [] I7 (λ_=>Nh false 2) ?_;rintro e cs F1 _ ⟨⟨h,_⟩|⟨_,rfl⟩,rfl⟩
  ·cases h
  ·exact Jn [] I λ_=>⟨.inr ⟨I,I⟩,I⟩
 have e:decide ((xs.length:Int)=s)=true:=by simp at h1;simpa using h1
 rw[e];refine tqc I5 (λ_=>OP (F0:=[]) (lb:=[]) (a:=a) (cap:=cap) (xs:=xs) I (λx=> !Hr x) tqO λx _=>EY x) ?_;have e2:(!xs.any λx=> !Hr x)=xs.all Hr:=by rw[Lu]
 rw[<-e2];cases xs.any λx=> !Hr x;rotate_left
 ·refine Aj [] [] I7 (λ_=>Nh false 2) ?_;rintro e cs F1 _ ⟨⟨h,_⟩|⟨_,rfl⟩,rfl⟩
  ·cases h
  ·exact Jn [] I λ_=>⟨.inr ⟨I,I⟩,I⟩
 refine Aj [] [] I7 (λ_=>Nh true 2) ?_;rintro e cs F1 _ ⟨⟨_,rfl⟩|⟨h,_⟩,rfl⟩;rotate_left
 ·cases h
 refine tqc I5 (λ_=>ZB) ?_;refine Aj [] [] I7 (λ_=>Nh true 2) ?_;rintro e cs F1 _ ⟨⟨_,rfl⟩|⟨h,_⟩,rfl⟩;rotate_left
 ·cases h
 exact Al [] I2 λ_=>⟨.inl ⟨I,I⟩,I⟩
theorem UZ (n l s:Int) (a:Option Addr) (cap:Nat) (xs:List Slt) (hx:xs.length<=1000000) (q:Bool) (b:Nat):Cm prog 110 [.agg #[.int .i64 n,.int .i64 l,.int .i64 s],.slice a xs.length cap,.slice (some ⟨b,0,none⟩) 1 1] [] [B9 b [.bool q] 4,slF Bm 8 (.slice a xs.length cap) xs] (CL 45 (Jl n l s xs&&q) 2):=by
 refine tqm [.g [.v (.int .i64 n),.v (.int .i64 l),.v (.int .i64 s)],.o (.v (.slice a xs.length cap)),.o (.v (.slice (some ⟨b,0,none⟩) 1 1))] func110 ntmps110 λ_ _=>?_;refine tqc I5 (λ_=>Qz n l s) ?_;unfold Jl Nu;cases hs:Ef n l s
 ·refine Aj [] [] I7 (λ_=>Nh false 2) ?_;rintro e cs F1 _ ⟨⟨h,_⟩|⟨_,rfl⟩,rfl⟩
  ·cases h
  ·exact Jn [] I λ_=>⟨.inr ⟨I,I⟩,I⟩
 refine A7 (λh1=>?_) λh1=>?_;rotate_left
 ·have e:decide ((xs.length:Int)=s)=false:=by simp at h1;simpa using h1
  rw[e];refine Aj [] [] I7 (λ_=>Nh false 2) ?_;rintro e cs F1 _ ⟨⟨h,_⟩|⟨_,rfl⟩,rfl⟩
  ·cases h
  ·exact Jn [] I λ_=>⟨.inr ⟨I,I⟩,I⟩
 have e:decide ((xs.length:Int)=s)=true:=by simp at h1;simpa using h1
 rw[e];refine tqc I5 (λ_=>OP (F0:=[]) (lb:=[]) (a:=a) (cap:=cap) (xs:=xs) I (λx=> !Hr x) tqO λx _=>EY x) ?_;have e2:(!xs.any λx=> !Hr x)=xs.all Hr:=by rw[Lu]
 rw[<-e2];cases xs.any λx=> !Hr x;rotate_left
 ·refine Aj [] [] I7 (λ_=>Nh false 2) ?_;rintro e cs F1 _ ⟨⟨h,_⟩|⟨_,rfl⟩,rfl⟩
  ·cases h
  ·exact Jn [] I λ_=>⟨.inr ⟨I,I⟩,I⟩
 refine Aj [] [] I7 (λ_=>Nh true 2) ?_;rintro e cs F1 _ ⟨⟨_,rfl⟩|⟨h,_⟩,rfl⟩;rotate_left
 ·cases h
 refine tqc I5 (λ_=>Acp q b) ?_;cases q
 ·refine Aj [] [] I7 (λ_=>Nh false 2) ?_;rintro e cs F1 _ ⟨⟨h,_⟩|⟨_,rfl⟩,rfl⟩
  ·cases h
  ·exact Jn [] I λ_=>⟨.inr ⟨I,I⟩,I⟩
 ·refine Aj [] [] I7 (λ_=>Nh true 2) ?_;rintro e cs F1 _ ⟨⟨_,rfl⟩|⟨h,_⟩,rfl⟩;rotate_left
  ·cases h
  exact Al [] I2 λ_=>⟨.inl ⟨I,I⟩,I⟩
theorem UX:Cm prog 216 [] [] [] (λe cs F1=>e=.returned (.tuple #[])/\cs=[]/\F1=[]):=by
 refine tqm [] func216 ntmps216 λ_ _=>?_;exact Al [] I2 λ_=>⟨I,I,I⟩
def LR (n l s:Int) (xs:List Slt):Int:=bif Jl n l s xs then 0 else 2
theorem WY (n l s:Int) (a:Option Addr) (cap:Nat) (xs:List Slt) (hx:xs.length<=1000000):Cm prog 143 [.agg #[.int .i64 n,.int .i64 l,.int .i64 s],.slice a xs.length cap] [] [slF Bm 8 (.slice a xs.length cap) xs] (Bd (.int .i64 (LR n l s xs))):=by
 refine tqn [.g [.v (.int .i64 n),.v (.int .i64 l),.v (.int .i64 s)],.o (.v (.slice a xs.length cap))] func143 ntmps143 I I (λ_ _=>I) λ_ _=>?_;refine AZ I I I I I I I I ?_;refine Aj [] [] I7 (λ_=>UY n l s a cap xs hx) ?_;rintro e cs F1 _ ⟨⟨hb,rfl⟩|⟨hb,rfl⟩,rfl⟩
 ·refine Lm Tj (Df func108 tqK I) (Fg ?_);unfold LR;rw[hb];exact tqE
 ·refine Rb [] DO (Df func108 tqK I) (Df func216 tqK I) I tqS (λρ=>UX) I (Fg ?_);unfold LR;rw[hb];exact tqE
def Vz (m p:Int):Bool:=(decide (1<=m)&&decide (m<=5))&&(decide (0<=p)&&decide (p<=3))
theorem St (m p:Int):Cm prog 173 [.int .i64 m,.int .i64 p] [] [] (Bd (.bool (Vz m p))):=by
 refine tqm [.o (.v (.int .i64 m)),.o (.v (.int .i64 p))] func173 ntmps173 λ_ _=>?_;repeat' (first|refine Ai (λ_=>?_) (λ_=>?_)|refine A7 (λ_=>?_) (λ_=>?_)|(refine Al [] I2 λ_=>⟨Bx ?_,rfl⟩;(rw[Be];simp[Vz,Dt] at* <;>(try dsimp only at*)<;>first|omega|(simp_all;done)|(simp_all;omega)))|(refine Aj [] [] I7 (λ_=>Ux _) ?_;rintro e cs F1 _ ⟨rfl,rfl⟩))
theorem Af9 {p q:Prop} [Decidable p] [Decidable q]:((decide p == decide q)=true)↔(p↔q):=by
 by_cases hp:p<;>by_cases hq:q<;>simp[hp,hq]
theorem Pa {x:Slt}:Hr x=true↔((0<=x.use/\x.use<=1099511627776)/\(0<=x.state/\x.state<=5)/\(x.use=0↔x.state=0))/\((x.state=1\/x.state=2)->1<=x.use/\Vz x.mode x.prio=true)/\(¬(x.state=1\/x.state=2)->x.mode=0/\x.prio=0)/\(x.due=0\/(x.state=1/\Iy x.due=true))/\(x.state=2->Ho x.ctr=true)/\(x.state≠2->x.ctr.value=0/\x.ctr.floor=0/\x.ctr.version=0):=by
 have e1:((x.use == 0) == (x.state == 0))=true↔(x.use=0↔x.state=0):=Af9 (p:=x.use=0) (q:=x.state=0);simp only[Hr,Qf,LS,LT,LU,Ad,Fw,Aq,e1];by_cases h1:x.state=1
 ·have hO:Od x=true:=by simp[Od,h1]
  rw[hO];cases ht:Iy x.due<;>simp[Iz,hO,Gk,Vz,h1]<;>omega
 by_cases h2:x.state=2
 ·have hO:Od x=true:=by simp[Od,h2]
  rw[hO];cases ht:Ho x.ctr<;>simp[Iz,hO,Gk,Vz,h2]<;>omega
 ·have hO:Od x=false:=by simp[Od,h1,h2]
  rw[hO];simp[h1,h2];omega
theorem Ai8 {key:Int} {v0:Value}:∀ {ms:List (Int×Value)} (j:Nat),Jj ms key=some v0->∃b,(mE j ms)[ms.findIdx λp=>p.1 == key]? =some {key:=.int .i64 key,val:=v0,born:=b}
 | [],j,h=>by simp[Jj] at h
 |(z,u)::r,j,h=>by
  unfold Jj at h;split at h
  ·rename_i hk;cases h;subst hk;refine⟨j,?_⟩;simp[mE,Mz]
  ·rename_i hk;obtain⟨b,hb⟩:=Ai8 (j+1) h;refine⟨b,?_⟩;have e:(z == key)=false:=by simpa using λe=>hk e.symm
   rw[Mz];simp only[e,By,mE,Ip];exact hb
theorem OU (z:Int) (v:Value):∀(ms:List (Int×Value)) (j i:Nat),(mE j ms).modify i (λe=> {e with key:=.int .i64 z,val:=v})=mE j (ms.set i (z,v))
 | [],j,i=>by cases i<;>rfl
 |p::r,j,0=>rfl
 |p::r,j,i+1=>by
  simp only[mE,List.modify_succ_cons,Xe,OU z v r (j+1) i]
def CJ (ms:List (Int×Value)) (z:Int) (v:Value):List (Int×Value):=ms.set (ms.findIdx λp=>p.1 == z) (z,v)
theorem OW {key:Int} {v v0:Value}:∀ {ms:List (Int×Value)},Jj ms key=some v0->Jj (CJ ms key v) key=some v
 | [],h=>by simp[Jj] at h
 |(z,u)::r,h=>by
  unfold Jj at h;split at h
  ·rename_i hk;subst hk;simp[CJ,Mz,Jj]
  ·rename_i hk;have e:(z == key)=false:=by simpa using λe=>hk e.symm
   have:=OW (v:=v) h;unfold CJ at this⊢;rw[Mz];simp only[e,By,Xe,Jj,Ar hk];exact this
theorem Alf {P:Program} {t e:TypeId} (ht:Zc P t e=true) {ms:List (Int×Value)} {z:Int} {v0:Value} (hz:Jj ms z=some v0) (v:Value) {w:World} (hg:w.heap[g]? =some (Np ms)):
  (Instr.mapUpdate t (.map (some g)) (.int .i64 z) v).run P w=.ok () {w with heap:=w.heap.setIfInBounds g (Np (CJ ms z v))}:=by
 obtain⟨q,h1,h2⟩:=AW ht;have hf:=AU h2 z ms w;rw[hz] at hf;obtain⟨b,hb⟩:=Ai8 0 hz;have hs:=MapKept.run_setObj_map (P:=P) (.map ((mE 0 ms).toArray.modify (ms.findIdx λp=>p.1 == z) λe=> {e with key:=.int .i64 z,val:=v}) ms.length) hg;have e:Np (CJ ms z v)=.map ((mE 0 ms).toArray.modify (ms.findIdx λp=>p.1 == z) λe=> {e with key:=.int .i64 z,val:=v}) ms.length:=by
  have:(mE 0 ms).toArray.modify (ms.findIdx λp=>p.1 == z) (λe=> {e with key:=.int .i64 z,val:=v})=(mE 0 (CJ ms z v)).toArray:=by
   apply Cn;rw[Array.toList_modify];exact OU z v ms 0 _
  rw[this,Np,CJ,Mr]
 have hk:(Instr.keyThatStays (.int .i64 z) (.int .i64 z)).run P w=.ok (.int .i64 z) w:=by
  simp[Instr.keyThatStays,Instr.sameBits]
 rw[e];have hb2:(mE 0 ms).toArray[0+ms.findIdx λp=>p.1 == z]? =some {key:=.int .i64 z,val:=v0,born:=b}:=by
  rw[Bl,Ic];exact hb
 simp only[Instr.mapUpdate,Ba,At h1,An,Th hg,Y6 h2,hf,hb2,Gf,Hz,hk];rw[Bl];exact hs
section
variable {X:Fx} {o:Oper} {T:TE} {L:LE} {n:Nat} {F:List Fact} {D:DF} {K:KK} {k:KS}
variable {ms:List (Int×Value)}
theorem Aax {t:TypeId} {x y z:Operand} {u:TV} {v:Value} {j g:Nat} {key:Int} (ho:o.op=.mapUpdate t x y z) (hd:o.dst=none) (ht:KN X.P t=true) (hx:evS T x=some (.o (.v (.map (some g))))) (hy:evS T y=some (.o (.v (.int .i64 key))))
  (hz:evS T z=some u) (hu:∀ρ,u.den ρ=v) (hj:Ah L j=some (.ob g (Np ms))) (hk:Jj ms key=none) (h:k T ((j,.ob g (Np (ms++[(key,v)])))::L) n F D):OJs X o T L n F D k K:=by
 intro Q hQ Φ hΦ a w hr;obtain⟨e,ht⟩:=GY ht;obtain⟨A,ρ,h0⟩:=hr.one;have hg:w.heap[g]? =some (Np ms):=h0.lo j _ hj;refine Oper.wpIn_of_run (by simp[Cw,ho]) ?_;have e1:=h0.ev hx;have e2:=h0.ev hy;have e3:=h0.ev hz;simp only[TV.den,SV.den] at e1 e2;have e4:(execOp a.eval o).run X.P w=.ok .skip {w with heap:=w.heap.setIfInBounds g (Np (ms++[(key,v)]))}:=by
  simp only[execOp,ho,e1,e2,e3,hu,Ba,Abn ht hk v hg,An,Bh]
 rw[e4];have hput:a.put o.dst undef=a:=by rw[hd];rfl
 show Φ (a.put o.dst undef) _
 rw[hput];have hlt:=Dr hg;exact hΦ _ _ _ _ _ h _ _ (hr.ob hj (by simp[hlt]) ⟨I,I,I,tqS,λi _ hi=>by
  show (w.heap.setIfInBounds g _)[i]? =_
  rw[Dz λe=>hi (by rw[e])]⟩)
theorem Aay {t:TypeId} {x y z:Operand} {u:TV} {v v0:Value} {j g:Nat} {key:Int} (ho:o.op=.mapUpdate t x y z) (hd:o.dst=none) (ht:KN X.P t=true) (hx:evS T x=some (.o (.v (.map (some g))))) (hy:evS T y=some (.o (.v (.int .i64 key))))
  (hz:evS T z=some u) (hu:∀ρ,u.den ρ=v) (hj:Ah L j=some (.ob g (Np ms))) (hk:Jj ms key=some v0) (h:k T ((j,.ob g (Np (CJ ms key v)))::L) n F D):OJs X o T L n F D k K:=by
 intro Q hQ Φ hΦ a w hr;obtain⟨e,ht⟩:=GY ht;obtain⟨A,ρ,h0⟩:=hr.one;have hg:w.heap[g]? =some (Np ms):=h0.lo j _ hj;refine Oper.wpIn_of_run (by simp[Cw,ho]) ?_;have e1:=h0.ev hx;have e2:=h0.ev hy;have e3:=h0.ev hz;simp only[TV.den,SV.den] at e1 e2;have e4:(execOp a.eval o).run X.P w=.ok .skip {w with heap:=w.heap.setIfInBounds g (Np (CJ ms key v))}:=by
  simp only[execOp,ho,e1,e2,e3,hu,Ba,Alf ht hk v hg,An,Bh]
 rw[e4];have hput:a.put o.dst undef=a:=by rw[hd];rfl
 show Φ (a.put o.dst undef) _
 rw[hput];have hlt:=Dr hg;exact hΦ _ _ _ _ _ h _ _ (hr.ob hj (by simp[hlt]) ⟨I,I,I,tqS,λi _ hi=>by
  show (w.heap.setIfInBounds g _)[i]? =_
  rw[Dz λe=>hi (by rw[e])]⟩)
theorem W6 {t e:TypeId} {x y:Operand} {j g d:Nat} {key:Int} {v:Value} {i:TypeInfo} (hj:Ah L j=some (.ob g (Np ms))) (ho:o.op=.lookup t x y false) (hd:o.dst=some d) (hdk:Nat.blt d X.k=true) (ht:Zc X.P t e=true) (hi:X.P.info? e=some i) (hx:evS T x=some (.o (.v (.map (some g))))) (hy:evS T y=some (.o (.v (.int .i64 key))))
  (hv:Jj ms key=some v\/(Jj ms key=none/\i.zero=some v)) (h:k ((d,.o (.v v))::T) L n F D):OJs X o T L n F D k K:=by
 intro Q hQ Φ hΦ a w hr;refine Oper.wpIn_of_run (by simp[Cw,ho]) ?_;obtain⟨A,ρ,h0⟩:=hr.one;have hg:w.heap[g]? =some (Np ms):=h0.lo j _ hj;have e1:=h0.ev hx;have e2:=h0.ev hy;simp only[TV.den,SV.den] at e1 e2;have e4:(execOp a.eval o).run X.P w=.ok (.value v) w:=by
  obtain⟨q,h1,h2⟩:=AW ht;have hf:=AU h2 key ms w;have hr:(Instr.lookup t (.map (some g)) (.int .i64 key) false).run X.P w=.ok v w:=by
   simp only[Instr.lookup,Ba,At h1,An,Th hg,Bh,Y6 h2,hf];rcases hv with hv|⟨hv,hz⟩
   ·rw[hv];rfl
   ·have hzv:(zeroValue e).run X.P w=.ok v w:=by simp[zeroValue,typeInfo,hi,hz]
    rw[hv];simp only[Ba,hzv,An,Bh];rfl
  simp[execOp,ho,e1,e2,hr]
 rw[e4];exact hΦ _ _ _ _ _ h _ w (hr.put (u:=.o (.v v)) (λ_ _ _=>I) (by simp[E7,hd,hdk]))
end
structure Wt where
 site:Int
 use:Int
 mode:Int
 prio:Int
 age:Int
def wtL (x:Wt):List Value:=[.int .i64 x.site,.int .i64 x.use,.int .i64 x.mode,.int .i64 x.prio,.int .i64 x.age]
theorem Ez:∀x,(wtL x).length=5:=λ_=>I
def wtB (x:Wt):Bool:=(decide (0<=x.site)&&decide (x.site<=255))&&(decide (1<=x.use)&&decide (x.use<=1099511627776))&&(decide (1<=x.mode)&&decide (x.mode<=5))&&(decide (0<=x.prio)&&decide (x.prio<=3))&&(decide (0<=x.age)&&decide (x.age<=64))
theorem FG (x:Wt) (q:Int):Cm prog 287 [.agg #[.int .i64 x.site,.int .i64 x.use,.int .i64 x.mode,.int .i64 x.prio,.int .i64 x.age,.int .i64 q]] [] [] (Bd (.bool (wtB x))):=by
 obtain⟨site,use,mode,prio,age⟩:=x;refine tqm [.g [.v (.int .i64 site),.v (.int .i64 use),.v (.int .i64 mode),.v (.int .i64 prio),.v (.int .i64 age),.v (.int .i64 q)]] func287 ntmps287 λ_ _=>?_;refine B8 (u:=.g [.v (.int .i64 site),.v (.int .i64 0),.v (.int .i64 255),.v (.int .i64 use),.v (.int .i64 1),.v (.int .i64 1099511627776),.v (.int .i64 mode),.v (.int .i64 1),.v (.int .i64 5),.v (.int .i64 prio),.v (.int .i64 0),.v (.int .i64 3),.v (.int .i64 age),.v (.int .i64 0),.v (.int .i64 64)]) Ha ?_;refine Hj 6 ?_;refine B8 (Io (i:=0) (m:=5)) ?_;refine Ai (λ_=>?_) λ_=>?_
 ·exact Al [] I2 λ_=>⟨Bx (by cases hcb:wtB _<;>first|rfl|(exfalso;simp[wtB] at hcb;(try dsimp only at*);omega)),I⟩
 refine Ai (λ_=>?_) λ_=>?_
 ·exact Al [] I2 λ_=>⟨Bx (by cases hcb:wtB _<;>first|rfl|(exfalso;simp[wtB] at hcb;(try dsimp only at*);omega)),I⟩
 refine Af (z:=1) ?_;refine B8 (Io (i:=1) (m:=5)) ?_;refine Ai (λ_=>?_) λ_=>?_
 ·exact Al [] I2 λ_=>⟨Bx (by cases hcb:wtB _<;>first|rfl|(exfalso;simp[wtB] at hcb;(try dsimp only at*);omega)),I⟩
 refine Ai (λ_=>?_) λ_=>?_
 ·exact Al [] I2 λ_=>⟨Bx (by cases hcb:wtB _<;>first|rfl|(exfalso;simp[wtB] at hcb;(try dsimp only at*);omega)),I⟩
 refine Af (z:=2) ?_;refine B8 (Io (i:=2) (m:=5)) ?_;refine Ai (λ_=>?_) λ_=>?_
 ·exact Al [] I2 λ_=>⟨Bx (by cases hcb:wtB _<;>first|rfl|(exfalso;simp[wtB] at hcb;(try dsimp only at*);omega)),I⟩
 refine Ai (λ_=>?_) λ_=>?_
 ·exact Al [] I2 λ_=>⟨Bx (by cases hcb:wtB _<;>first|rfl|(exfalso;simp[wtB] at hcb;(try dsimp only at*);omega)),I⟩
 refine Af (z:=3) ?_;refine B8 (Io (i:=3) (m:=5)) ?_;refine Ai (λ_=>?_) λ_=>?_
 ·exact Al [] I2 λ_=>⟨Bx (by cases hcb:wtB _<;>first|rfl|(exfalso;simp[wtB] at hcb;(try dsimp only at*);omega)),I⟩
 refine Ai (λ_=>?_) λ_=>?_
 ·exact Al [] I2 λ_=>⟨Bx (by cases hcb:wtB _<;>first|rfl|(exfalso;simp[wtB] at hcb;(try dsimp only at*);omega)),I⟩
 refine Af (z:=4) ?_;refine B8 (Io (i:=4) (m:=5)) ?_;refine Ai (λ_=>?_) λ_=>?_
 ·exact Al [] I2 λ_=>⟨Bx (by cases hcb:wtB _<;>first|rfl|(exfalso;simp[wtB] at hcb;(try dsimp only at*);omega)),I⟩
 refine Ai (λ_=>?_) λ_=>?_
 ·exact Al [] I2 λ_=>⟨Bx (by cases hcb:wtB _<;>first|rfl|(exfalso;simp[wtB] at hcb;(try dsimp only at*);omega)),I⟩
 refine Af (z:=5) ?_;exact Al [] I2 λ_=>⟨Bx (by cases hcb:wtB _<;>first|rfl|(exfalso;simp[wtB] at hcb;(try dsimp only at*);omega)),I⟩
def D5 (xs:List Wt):Bool:=decide (xs.length<=256)&&xs.all wtB&&decide (xs.map Wt.site).Nodup
def Ym (xs:List Wt):List (Int×Value):=xs.map λx=>(x.site,.int .i64 1)
theorem EU {z:Int}:∀ {xs:List Wt},Jj (Ym xs) z=if z∈xs.map Wt.site then some (.int .i64 1) else none
 | []=>rfl
 |x::r=>by
  have ih:=EU (z:=z) (xs:=r);unfold Ym at ih⊢;rw[Bj,Jj,ih,Bj];by_cases h:z=x.site
  ·simp[h]
  ·simp[h]
variable {xs:List Wt}
theorem DB {k:Nat} {x:Wt} (hx:xs[k]? =some x) (h:wtB x=false\/x.site∈(xs.take k).map Wt.site):D5 xs=false:=by
 rw[Bo];intro hw;simp only[D5,Ad,Aq] at hw;rcases h with h|h
 ·rw[A6.1 hw.1.2 x (Av hx)] at h;cases h
 ·obtain⟨y,hy,hs⟩:=Cd.1 h;obtain⟨j,hj⟩:=B6.1 hy;have hjk:j<k:=by have:=(Aa.1 hj).1;rw[Am] at this;omega
  rw[Db hjk] at hj;have h1:(xs.map Wt.site)[j]? =some x.site:=by rw[Cq,hj];simp[hs]
  have h2:(xs.map Wt.site)[k]? =some x.site:=by rw[Cq,hx];rfl
  have:=(List.getElem?_inj (Aa.1 h1).1 hw.2).1 (h1.trans h2.symm);omega
theorem PX (hl:xs.length<=256) (h1:xs.all wtB=true) (h2:(xs.map Wt.site).Nodup):D5 xs=true:=by
 simp[D5,hl,h2];simpa using h1
theorem Vx {k:Nat} {x:Wt} (hx:xs[k]? =some x):xs.take (k+1)=xs.take k++[x]:=by
 rw[Dl,hx];rfl
theorem Acg:(prog.info? 3).map (λi=>i.zero)=some (some (.int .i64 0)):=tqK
theorem Q0 (a:Option Addr) (cap:Nat) (xs:List Wt):Cm prog 247 [.slice a xs.length cap] [] [slF wtL 5 (.slice a xs.length cap) xs] (Bd (.bool (D5 xs))):=by
 obtain⟨ii,hi1,hi2⟩:∃i,prog.info? 3=some i/\i.zero=some (.int .i64 0):=by
  have:=Acg;rw[Dn] at this;exact this
 refine tqm [.o (.v (.slice a xs.length cap))] func247 ntmps247 λ_ _=>?_;refine HF I I I λg=>?_;refine Ai (λhl=>?_) λhl=>?_;rotate_left
 ·have e:D5 xs=false:=by simp[D5];intro h;omega
  rw[e];exact tqE
 have hl2:xs.length<=256:=by omega
 refine En func245 ntmps245 ?_;intro w1 A1 M1 N1 hN1;refine En func298 ntmps298 ?_;intro w2 A2 M2 N2 hN2;refine En func285 ntmps285 ?_;intro w3 A3 M3 N3 hN3;refine Br (γ:=Nat) (λk=>k<=xs.length/\(xs.take k).all wtB=true/\((xs.take k).map Wt.site).Nodup) (λk=>[(8,.o (.v (.int .i64 k)))]) (λk=>[(0,.ob g (Np (Ym (xs.take k))))]) (λ_=>[]) (λk=>xs.length- k) 0 ⟨Ax _,I,List.nodup_nil⟩ (Ac (hM:=Bf (Fy hN3) (Cy I))) ?_;rintro k ⟨hk,hall,hnd⟩;refine Ai (λh1=>?_) λh1=>?_;rotate_left
 ·obtain rfl:k=xs.length:=by omega
  rw[D3] at hall hnd;rw[PX hl2 hall hnd];refine⟨I,?_⟩;refine⟨I,?_⟩;refine⟨I,?_⟩;exact tqE
 obtain⟨x,hx⟩:=A9 (xs:=xs) (k:=k);refine Dk (slF wtL 5 (.slice a xs.length cap) xs) (B1 hx) ?_;rintro ⟨b,off,rfl⟩;refine Au Bb ?_;refine Au (Cu (vs:=wtL x) (slF wtL 5 (.slice (some ⟨b,off,none⟩) xs.length cap) xs) (Du hx)) ?_;refine En func299 ntmps299 ?_;intro w4 A4 M4 N4 hN4;refine En func300 ntmps300 ?_;intro w5 A5 M5 N5 hN5;by_cases hm:x.site∈(xs.take k).map Wt.site
 ·have hno:D5 xs=false:=DB hx (.inr hm);have hlk:Jj (Ym (xs.take k)) x.site=some (.int .i64 1):=by rw[EU,Bi hm]
  refine W6 (j:=0) (e:=3) (i:=ii) I I I I tqK hi1 I I (.inl hlk) ?_;refine Af (z:=2) ?_;refine Aay (j:=0) (v:=.int .i64 2) I I tqK I I I (λ_=>I) I hlk ?_;refine tqc I5 (λ_=>FG x 0) ?_;cases hw:wtB x
  ·refine⟨I,?_⟩;refine⟨I,?_⟩;refine⟨I,?_⟩;refine⟨I,?_⟩;refine⟨I,?_⟩;exact Al [] I2 λ_=>⟨Bx (by rw[hno];simp),I⟩
  refine W6 (j:=0) (e:=3) (i:=ii) I I I I tqK hi1 I I (.inl (OW hlk)) ?_;refine⟨I,?_⟩;refine⟨I,?_⟩;refine⟨I,?_⟩;refine⟨I,?_⟩;refine⟨I,?_⟩;exact Al [] I2 λ_=>⟨Bx (by rw[hno];simp),I⟩
 ·have hlk:Jj (Ym (xs.take k)) x.site=none:=by rw[EU,Ar hm]
  refine W6 (j:=0) (e:=3) (i:=ii) I I I I tqK hi1 I I (.inr ⟨hlk,hi2⟩) ?_;refine Af (z:=1) ?_;refine Aax (j:=0) (v:=.int .i64 1) I I tqK I I I (λ_=>I) I hlk ?_;refine tqc I5 (λ_=>FG x 0) ?_;cases hw:wtB x
  ·have hno:D5 xs=false:=DB hx (.inl hw);refine⟨I,?_⟩;refine⟨I,?_⟩;refine⟨I,?_⟩;refine⟨I,?_⟩;refine⟨I,?_⟩;exact Al [] I2 λ_=>⟨Bx (by rw[hno];simp),I⟩
  have hl3:Jj (Ym (xs.take k)++[(x.site,.int .i64 1)]) x.site=some (.int .i64 1):=by rw[KT,hlk];simp
  refine W6 (j:=0) (e:=3) (i:=ii) I I I I tqK hi1 I I (.inl hl3) ?_;refine⟨I,?_⟩;refine⟨I,?_⟩;refine Af (z:=(k+1:Nat)) ?_;refine⟨k+1,⟨tqO,by rw[Vx hx,Ih,hall];simpa using hw,?_⟩,tqP,?_⟩
  ·rw[Vx hx,D6,Pd];refine⟨hnd,tqS,λy hy z hz=>?_⟩;simp only[Bj,E4,Bc] at hz;subst hz;exact λe=>hm (e ▸ hy)
  ·have e:Ym (xs.take (k+1))=Ym (xs.take k)++[(x.site,.int .i64 1)]:=by rw[Vx hx];simp[Ym]
   simp only[e];exact Ac (hM:=Bf (Fy hN3) (Cy I))
end Go.Proofs.YtjofafbkkpdgbaaGreat
