/- A part of the proof of LockOpens: rules and contracts. No condition. -/
import Derived.Test.YtjofafbkkpdgbaaGreatPnag
set_option maxRecDepth 100000
set_option maxHeartbeats 4000000
set_option linter.all false
namespace Go.Proofs.YtjofafbkkpdgbaaGreat.Ck
open Go Go.RowKit Go.Shelf
section
variable {P:Program} {β:Type} {z:β} {ih:Ev β}
def DL (P:Program) (o:Oper) (all:Array Oper) (l:List Oper) (F:Fr) (H:CH) (e:Ex) (F':Fr) (H':CH):Prop:=F'.q=F.q/\
 ∀(r:Option Nat) (nn:Nat) al G0 a w Q (K':Act->World->Prop),QR al G0 F.q r->FS al G0 F a->HS al G0 H w->Pm al G0 H w e F' H' Q->(∀a w,wpListIn (feR r) nn P all Q l a w->K' a w)->o.wpIn (feR r) nn P a w K' Q
theorem FS.ts {al:Nat->Prop} {G0:Gh} {F:Fr} {a:Act} (h:FS al G0 F a):TS al G0 F.T F.m a:=λG hG=>(h G hG).1
variable {o:Oper}
theorem Qi {r:Option Nat} {nn:Nat} {a:Act} {w:World} {K':Act->World->Prop} {Q:Exit->Act->World->Prop} (hd:∀c,o.op≠.defer c) (h:o.uponIn (feR r) nn P a K' Q ((execOp a.eval o).run P w)):o.wpIn (feR r) nn P a w K' Q:=by
 refine⟨λ_ _=>trivial,?_⟩;rw[T3 _ _ _ hd];exact h
def NxS (P:Program) (z:β) (all:Array Oper) (l:List Oper) (nx:Fr->CH->β) (K:E5 β):Prop:=∀F H,nx F H=z\/∃e F' H',nx F H=K e F' H'/\RA P all l F H e F' H'
variable {nx:Fr->CH->β}
theorem PU (hok:∀x∈o.op.operands.toList,C3 x=true) (hd:∀c,o.op≠.defer c) (all:Array Oper) (l:List Oper) (F:Fr) (H:CH) (K:E5 β) (hnx:NxS P z all l nx K):
  (opV P z F.T o H λv H=>Iv z o.dst v F λF=>nx F H)=z\/∃e F' H',(opV P z F.T o H λv H=>Iv z o.dst v F λF=>nx F H)=K e F' H'/\DL P o all l F H e F' H':=by
 rcases TK (P:=P) (T:=F.T) (m:=F.m) (z:=z) (H:=H) (o:=o) hok (K:=λv H=>Iv z o.dst v F λF=>nx F H) with h|⟨v,H1,h,hop⟩
 ·exact .inl h
 ·rcases Uw (z:=z) (d:=o.dst) (v:=v) (F:=F) (K:=λF=>nx F H1) with h2|⟨F1,h2,hm,hD,hq1,hT1⟩
  ·exact .inl (h.trans h2)
  ·rcases hnx F1 H1 with h3|⟨e,F2,H2,h3,hq2,h4⟩
   ·exact .inl (h.trans (h2.trans h3))
   ·refine .inr ⟨e,F2,H2,h.trans (h2.trans h3),hq2.trans hq1,λr nn al G0 a w Q K' hq hf hS hT hK=>Qi hd ?_⟩;obtain⟨al',G',w',t1,hS1,u,hr,hu⟩:=hop al G0 a w hf.ts hS;have hf1:FS al' G' F1 (a.put o.dst u):=(hf.to t1).put hu hD hT1;have fin:K' (a.put o.dst u) w':=hK _ _ (h4 r nn al' G' _ w' Q (by rw[hq1];exact hq.to t1) hf1 hS1 (hT.to t1));rcases hr with hr|⟨hr,rfl⟩
    ·rw[hr];exact fin
    ·rw[hr];exact fin
theorem Aeu {d:Option Nat} (all:Array Oper) (l:List Oper) (F:Fr) (H:CH) (K:E5 β) (hnx:NxS P z all l nx K):
  (Iv z d undef F λF=>nx F H)=z\/∃e F' H',(Iv z d undef F λF=>nx F H)=K e F' H'/\F'.q=F.q/\
   ∀(r:Option Nat) (nn:Nat) al G0 a w Q,QR al G0 F.q r->FS al G0 F a->HS al G0 H w->Pm al G0 H w e F' H' Q->wpListIn (feR r) nn P all Q l (a.put d undef) w:=by
 rcases Uw (z:=z) (d:=d) (v:=undef) (F:=F) (K:=λF=>nx F H) with h2|⟨F1,h2,hm,hD,hq1,hT1⟩
 ·exact .inl h2
 ·rcases hnx F1 H with h3|⟨e,F2,H2,h3,hq2,h4⟩
  ·exact .inl (h2.trans h3)
  ·exact .inr ⟨e,F2,H2,h2.trans h3,hq2.trans hq1,λr nn al G0 a w Q hq hf hS hT=>h4 r nn al G0 _ w Q (by rw[hq1];exact hq) (hf.put (v:=undef) (λG _=>by simp) hD hT1) hS hT⟩
theorem IC {al:Nat->Prop} {G0:Gh} {F:Fr} {a:Act} (hf:FS al G0 F a) {xs:Array Operand} (hok:∀x∈xs.toList,C3 x=true):∀G,Ag al G0 G->(xs.map a.eval).toList=(C2 (xs.map (evT F.T))).map (den G):=λG hG=>by
 rw[J0,Di,Di];exact Yw (hf G hG).1 hok
theorem ZC (hs:Lf P z ih) {c:Call} {f:Operand} {g:FuncId} {first cap:Array Value} (ho:o.op=.call c) (hc:c.callee=.value f) (hok:∀x∈o.op.operands.toList,C3 x=true) (all:Array Oper) (l:List Oper) (F:Fr) (H:CH) (K:E5 β) (hnx:NxS P z all l nx K)
  (hv:evT F.T f=.func (.func g) first cap):Ww P z ih g (C2 first++(C2 (c.args.map (evT F.T))++C2 cap)) o.dst nx F H K=z\/∃e F' H',Ww P z ih g (C2 first++(C2 (c.args.map (evT F.T))++C2 cap)) o.dst nx F H K=K e F' H'/\DL P o all l F H e F' H':=by
 have hof:C3 f=true:=hok f (by simp[ho,Op.operands,Call.operands,hc]);have hoa:∀x∈c.args.toList,C3 x=true:=λx hx=>hok x (by simp[ho,Op.operands,Call.operands,hc,J3.1 hx]);have hd:∀c,o.op≠.defer c:=λc'=>by rw[ho];simp
 unfold Ww;split
 ·rename_i hB;have hE:∀args w,(callFunc g args).run P w=.ok (.enter g args) w:=Qh hB;have run:∀(al:Nat->Prop) (G0:Gh) (a:Act) (w:World),FS al G0 F a->∃args':Array Value,(execOp a.eval o).run P w=.ok (.enter g args') w/\∀G,Ag al G0 G->args'=⟨(C2 first++(C2 (c.args.map (evT F.T))++C2 cap)).map (den G)⟩:=λal G0 a w hf=>by
   have e:∀G,Ag al G0 G->a.eval f=.func (.func g) ⟨(C2 first).map (den G)⟩ ⟨(C2 cap).map (den G)⟩:=λG hG=>by
    rw[Cz (hf G hG).1 hof,hv];exact Ma G _ _ _
   refine⟨⟨(C2 first).map (den G0)⟩++c.args.map a.eval++⟨(C2 cap).map (den G0)⟩,?_,λG hG=>?_⟩
   ·simp only[execOp,ho,resolve,hc,e G0 .rfl,Deferred.ofValue,invoke,hE,Ba,Bh,An]
   ·have e1:=e G hG;rw[e G0 .rfl] at e1;injection e1 with _ e2 e3
    injection e2 with e2
    injection e3 with e3
    apply Cn;rw[e2,e3,Kk,Kk,IC hf hoa G hG];simp
  rcases hs (.fn g (C2 first++(C2 (c.args.map (evT F.T))++C2 cap))) noF H (Aiz z o.dst nx F K) with h|⟨e,Fx,H1,h,hfn⟩
  ·exact .inl h
  ·cases e with
   |val v=>
    rcases Uw (z:=z) (d:=o.dst) (v:=v) (F:=F) (K:=λF=>nx F H1) with h2|⟨F1,h2,hm,hD,hq1,hT1⟩
    ·exact .inl (h.trans h2)
    ·rcases hnx F1 H1 with h3|⟨e,F2,H2,h3,hq2,h4⟩
     ·exact .inl (h.trans (h2.trans h3))
     ·refine .inr ⟨e,F2,H2,h.trans (h2.trans h3),hq2.trans hq1,λr nn al G0 a w Q K' hq hf hS hT hK=>Qi hd ?_⟩;obtain⟨args',hrun,hargs⟩:=run al G0 a w hf;rw[hrun];refine⟨λh=>(nomatch h),hfn r (nn- 1) al G0 args' w _ hargs hS (λal' G' w' t1 hS1 u hu=>?_) (.inl ⟨v,I⟩)⟩;exact hK _ _ (h4 r nn al' G' _ w' Q (by rw[hq1];exact hq.to t1) ((hf.to t1).put hu hD hT1) hS1 (hT.to t1))
   |panic v=>
    refine .inr ⟨.panic v,F,H1,h,I,λr nn al G0 a w Q K' hq hf hS hT hK=>Qi hd ?_⟩;obtain⟨args',hrun,hargs⟩:=run al G0 a w hf;rw[hrun];exact⟨λh=>(nomatch h),hfn r (nn- 1) al G0 args' w _ hargs hS (λal' G' w' t1 hS1=>hT al' G' a w' t1 hS1 (hf.to t1)) (.inr ⟨v,I⟩)⟩
   |_=>exact .inl h
 ·exact .inl I
theorem Acx {c:Call} {f:Operand} {fn:Fn} {first cap:Array Value} (ho:o.op=.defer c) (hc:c.callee=.value f) (hok:∀x∈o.op.operands.toList,C3 x=true) (all:Array Oper) (l:List Oper) (F:Fr) (H:CH) (K:E5 β) (hnx:NxS P z all l nx K)
  (hv:evT F.T f=.func fn first cap):ZL z fn first cap (C2 (c.args.map (evT F.T))) o.dst nx F H=z\/∃e F' H',ZL z fn first cap (C2 (c.args.map (evT F.T))) o.dst nx F H=K e F' H'/\DL P o all l F H e F' H':=by
 have hof:C3 f=true:=hok f (by simp[ho,Op.operands,Call.operands,hc]);have hoa:∀x∈c.args.toList,C3 x=true:=λx hx=>hok x (by simp[ho,Op.operands,Call.operands,hc,J3.1 hx]);unfold ZL;split
 ·rename_i g hq0;rcases Uw (z:=z) (d:=o.dst) (v:=undef) (F:=F) (K:=λF1=>nx ⟨F1.T,F1.m,{target:=.fn (.func g) cap,args:=⟨C2 first++C2 (c.args.map (evT F.T))⟩}::F1.D,none⟩ H) with h2|⟨F1,h2,hm,hD,hq1,hT1⟩
  ·exact .inl h2
  ·rcases hnx ⟨F1.T,F1.m,{target:=.fn (.func g) cap,args:=⟨C2 first++C2 (c.args.map (evT F.T))⟩}::F1.D,none⟩ H with h3|⟨e,F2,H2,h3,hq2,h4⟩
   ·exact .inl (h2.trans h3)
   ·refine .inr ⟨e,F2,H2,h2.trans h3,hq2.trans hq0.symm,λr nn al G0 a w Q K' hq hf hS hT hK=>?_⟩;have hr:r=none:=by rw[hq0] at hq;exact hq
    subst hr;have e1:∀G,Ag al G0 G->a.eval f=.func (.func g) ⟨(C2 first).map (den G)⟩ ⟨(C2 cap).map (den G)⟩:=λG hG=>by
     rw[Cz (hf G hG).1 hof,hv];exact Ma G _ _ _
    have hrun:(execOp a.eval o).run P w=.ok (.defer {target:=.fn (.func g) ⟨(C2 cap).map (den G0)⟩,args:=⟨(C2 first).map (den G0)⟩++c.args.map a.eval}) w:=by
     simp only[execOp,ho,resolve,hc,e1 G0 .rfl,Deferred.ofValue,Ba,Bh,An]
    refine⟨λ_ _=>trivial,?_⟩;show o.uponIn (feR none) nn P a K' Q ((o.semAt none a.eval).run P w)
    rw[Oper.semAt_none,hrun];refine hK _ _ (h4 none nn al G0 _ w Q I (λG hG=>?_) hS hT);obtain⟨t1,t2⟩:=hf G hG;have t3:=hT1 G a t1;rw[Z4] at t3;constructor
    ·cases hdst:o.dst with
     |none=>rw[hdst] at t3;exact t3
     |some d=>rw[hdst] at t3;exact t3
    ·have e2:=e1 G hG;rw[e1 G0 .rfl] at e2;injection e2 with _ e3 e4
     have hx:Ve G {target:=.fn (.func g) cap,args:=⟨C2 first++C2 (c.args.map (evT F.T))⟩}= {target:=.fn (.func g) ⟨(C2 cap).map (den G0)⟩,args:=⟨(C2 first).map (den G0)⟩++c.args.map a.eval}:=by
      rw[e3,e4];unfold Ve RQ
      congr 1
      apply Cn;rw[Kk,IC hf hoa G hG];simp
     rw[Bj,hx,hD,<-t2];cases o.dst<;>rfl
 ·exact .inl I
theorem XM {G:Gh} {T:Tr Value} {m:Nat} {tm:Array Value} (ht:TR G T m tm) {all:Array Oper} {j d:Nat} {oj:Oper} (hj:all[j]? =some oj) (hd:oj.dst=some d):yielded all tm j=match evT T (.tmp d) with
  | .bool b=>some b
  |_=>none:=by
 have h1:=ht.2 d;rw[<-Yv] at h1;unfold yielded;rw[hj,Ud,hd,Ud];rw[Bp] at h1;cases hx:tm[d]? with
 |none=>
  rw[hx] at h1;simp only[Option.getD_none] at h1;cases hv:evT T (.tmp d)<;>rw[hv] at h1<;>first|rfl|(exfalso;simp[undef] at h1)
 |some y=>
  rw[hx] at h1;simp only[Hz] at h1;subst h1;cases hv:evT T (.tmp d) with
  |pointer a=>cases a<;>rfl
  |slice a l c=>cases a<;>rfl
  |map r=>cases r<;>rfl
  |func fn f c=>obtain⟨f⟩:=f;obtain⟨c⟩:=c;rfl
  |tuple vs=>obtain⟨vs⟩:=vs;rfl
  |agg vs=>obtain⟨vs⟩:=vs;rfl
  |_=>rfl
theorem Ad6 (hs:Lf P z ih) (hok:∀x∈o.op.operands.toList,C3 x=true) (all:Array Oper) (l:List Oper) (F:Fr) (H:CH) (K:E5 β) (hnx:NxS P z all l nx K)
  (hround:∀(c:Call) (f:Operand) (b:Nat) (cap:Array Value),o.op=.call c->c.callee=.value f->evT F.T f=.func (.yield b) #[] cap->Xp z ih b (C2 (c.args.map (evT F.T))) o.dst nx F H=z\/∃e F' H',Xp z ih b (C2 (c.args.map (evT F.T))) o.dst nx F H=K e F' H'/\DL P o all l F H e F' H'):
  TJ P z ih o nx F H K=z\/∃e F' H',TJ P z ih o nx F H K=K e F' H'/\DL P o all l F H e F' H':=by
 unfold TJ;split
 ·rename_i c ho;split
  ·rename_i f hc;unfold VM;split
   ·rename_i fn first cap hv
    split
    ·rename_i g;exact ZC hs ho hc hok all l F H K hnx hv
    ·rename_i b;split
     ·exact hround c f b cap ho hc hv
     ·exact .inl I
    ·exact .inl I
   ·exact .inl I
  ·exact PU hok (λc'=>by rw[ho];simp) all l F H K hnx
 ·rename_i c ho;split
  ·rename_i f hc;unfold RN;split
   ·rename_i fn first cap hv
    exact Acx ho hc hok all l F H K hnx hv
   ·exact .inl I
  ·exact .inl I
 ·rename_i x ho;have hx:C3 x=true:=hok x (by simp[ho,Op.operands]);unfold TU;split
  ·rename_i t v hv;refine .inr ⟨.panic (.iface t v),F,H,I,I,λr nn al G0 a w Q K' hq hf hS hT hK=>Qi (λc'=>by rw[ho];simp) ?_⟩;have e:=Cz (hf G0 .rfl).1 hx;rw[hv] at e;have hrun:(execOp a.eval o).run P w=.halt (.panic (den G0 (.iface t v))) w:=by
    simp[execOp,ho,e,den,Instr.panic,goPanic]
   rw[hrun];exact hT al G0 a w .rfl hS hf
  ·exact .inl I
 ·rename_i h1 h2 h3;exact PU hok (λc' h=>h2 c' h) all l F H K hnx
def Ack (P:Program) (z:β) (ih:Ev β):Prop:=∀(o:Oper) (all:Array Oper) (l:List Oper) (c:Call) (f:Operand) (b:Nat) (cap:Array Value) (F:Fr) (H:CH) (K:E5 β) (nx:Fr->CH->β),NxS P z all l nx K->(∀x∈o.op.operands.toList,C3 x=true)->o.op=.call c->c.callee=.value f->evT F.T f=.func (.yield b) #[] cap->
 Xp z ih b (C2 (c.args.map (evT F.T))) o.dst nx F H=z\/∃e F' H',Xp z ih b (C2 (c.args.map (evT F.T))) o.dst nx F H=K e F' H'/\DL P o all l F H e F' H'
theorem XQ (T:Tr Value):∀xs:List Operand,evL T xs=xs.map (evT T)
 | []=>rfl
 |x::xs=>by
  have:evL T (x::xs)=evT T x::evL T xs:=rfl;rw[this,XQ T xs];rfl
theorem RX (T:Tr Value) (xs:Array Operand):evL T (C2 xs)=C2 (xs.map (evT T)):=by
 rw[XQ,J0,J0,Di]
theorem Amw (o:Oper) (T:Tr Value) (H:CH) (K:Value->CH->β):(opF P z o).f T H K=opV P z T o H K:=by
 unfold opF opV;split;all_goals (rename_i ho)
 all_goals (first|(simp only[ho];done)|skip)
 ·simp only[ho];split
  ·dsimp only;rw[RX]
  ·rfl
theorem Akr (o:Oper) (r:W (U7 β)) (F:Fr) (H:CH) (K:E5 β):(NI P z o r).f ih F H K=TJ P z ih o (λF H=>r.f ih F H K) F H K:=by
 have hu:(opU P z o r).f ih F H K=opV P z F.T o H λv H=>Iv z o.dst v F λF=>r.f ih F H K:=Amw o F.T H _;unfold NI TJ;split
 ·split
  ·dsimp only;rw[RX]
  ·exact hu
 ·split
  ·dsimp only;rw[RX]
  ·rfl
 ·rfl
 ·exact hu
theorem PD (hs:Lf P z ih) (hround:Ack P z ih) (all:Array Oper):∀(l:List Oper) (F:Fr) (H:CH) (K:E5 β),(CP P z all l).f ih F H K=z\/∃e F' H',(CP P z all l).f ih F H K=K e F' H'/\RA P all l F H e F' H'
 | [],F,H,K=>.inr ⟨.normal,F,H,I,I,λr nn al G0 a w Q hq hf hS hT=>hT al G0 a w .rfl hS hf⟩
 |o::l,F,H,K=>by
  have e0:CP P z all (o::l)=Ahe P z all o (CP P z all l):=rfl;have hnx:NxS P z all l (λF H=>(CP P z all l).f ih F H K) K:=λF H=>PD hs hround all l F H K;rw[e0];generalize CP P z all l=r at hnx;unfold Ahe;split
  ·rename_i hok;have hok:∀x∈o.op.operands.toList,C3 x=true:=λx hx=>A6.1 hok x hx;have one:∀(hw:∀al G0 a,FS al G0 F a->Region.wanted o (yielded all a.tmps)=true),(NI P z o r).f ih F H K=z\/∃e F' H',(NI P z o r).f ih F H K=K e F' H'/\RA P all (o::l) F H e F' H':=λhw=>by
    rw[Akr];rcases Ad6 hs hok all l F H K hnx (λc f b cap h1 h2 h3=>hround o all l c f b cap F H K _ hnx hok h1 h2 h3) with h|⟨e,F',H',h,h1,h2⟩
    ·exact .inl h
    ·refine .inr ⟨e,F',H',h,h1,λr nn al G0 a w Q hq hf hS hT=>T6 λK' hK=>?_⟩;rw[Bi (hw al G0 a hf)];exact h2 r nn al G0 a w Q K' hq hf hS hT hK
   have skip:∀(hw:∀al G0 a,FS al G0 F a->Region.wanted o (yielded all a.tmps)=false),(Iv z o.dst undef F λF=>r.f ih F H K)=z\/∃e F' H',(Iv z o.dst undef F λF=>r.f ih F H K)=K e F' H'/\RA P all (o::l) F H e F' H':=λhw=>by
    rcases Aeu (d:=o.dst) all l F H K hnx with h|⟨e,F',H',h,h1,h2⟩
    ·exact .inl h
    ·refine .inr ⟨e,F',H',h,h1,λr nn al G0 a w Q hq hf hS hT=>T6 λK' hK=>?_⟩;rw[Ar (by rw[hw al G0 a hf];simp)];exact⟨λ_ _=>trivial,hK _ _ (h2 r nn al G0 a w Q hq hf hS hT)⟩
   split
   ·rename_i hg;exact one λal G0 a hf=>Tt hg _
   ·rename_i j wv hg;split
    ·rename_i oj hj;split
     ·rename_i d hd;have hy:=λal G0 a (hf:FS al G0 F a)=>XM (hf G0 .rfl).1 hj hd;unfold Adf;dsimp only;split
      ·rename_i bv hb;split
       ·rename_i hbw;exact one λal G0 a hf=>by
         have h1:=hy al G0 a hf;rw[hb] at h1;rw[Ng hg h1];exact hbw
       ·rename_i hbw;exact skip λal G0 a hf=>by
         have h1:=hy al G0 a hf;rw[hb] at h1;rw[Ng hg h1];exact hbw
      ·rename_i hnb;exact skip λal G0 a hf=>by
        have h1:=hy al G0 a hf;have h2:yielded all a.tmps j=none:=by
         rw[h1];split
         ·rename_i b' hb';exact absurd hb' (hnb b')
         ·rfl
        simp[Region.wanted,hg,h2]
     ·exact .inl I
    ·exact .inl I
  ·exact .inl I
end
section
variable {P:Program} {β:Type} {z:β} {ih:Ev β}
variable {w:World}
theorem HS.setLp {al:Nat->Prop} {G0:Gh} {H:CH} {b m:Nat} {st st':LoopState} {T:Tr Value} {ps:List Tmp} {pre body:Code} {fn:FuncId} {df:Nat} {j j':Option Code} {h':Tr Bk} (hs:HS al G0 H w) (hb:H.h.get b=some (.lp st T m ps pre body fn df j))
  (hh:∀k,h'.get k=if k=b then some (.lp st' T m ps pre body fn df j') else H.h.get k):
  ∃(tm:Array Value) (f0:FuncId),w.heap[(G0 b).b]? =some (.loop {state:=st,pending:=j,fn:=f0,tmps:=tm,params:=ps.toArray,assign:=pre,body:=body,defers:=(G0 df).b})/\(∀G,Ag al G0 G->TR G T m tm)/\
   HS al G0 ⟨h',H.n⟩ {w with heap:=w.heap.setIfInBounds (G0 b).b (.loop {state:=st',pending:=j',fn:=f0,tmps:=tm,params:=ps.toArray,assign:=pre,body:=body,defers:=(G0 df).b})}/\
   To al G0 H w al G0 ⟨h',H.n⟩ {w with heap:=w.heap.setIfInBounds (G0 b).b (.loop {state:=st',pending:=j',fn:=f0,tmps:=tm,params:=ps.toArray,assign:=pre,body:=body,defers:=(G0 df).b})}:=by
 have key:∀G,Ag al G0 G->BR G b w (.lp st T m ps pre body fn df j):=λG hG=>(hs.hr G hG).bk b _ hb I;obtain⟨tm,f0,h1,h2⟩:=key G0 .rfl;have h3:∀G,Ag al G0 G->TR G T m tm/\(G df).b=(G0 df).b:=λG hG=>by
  obtain⟨tm',f0',h1',h2'⟩:=key G hG;rw[hG b (hs.pr b _ hb),h1] at h1';injection h1' with h4
  injection h4 with h4
  injection h4 with _ _ _ e1 _ _ _ e2
  rw[e1];exact⟨h2',e2.symm⟩
 have hlt:(G0 b).b<w.heap.size:=(B5.1 h1).1;refine⟨tm,f0,h1,λG hG=>(h3 G hG).1,HS.write (w':= {w with heap:=w.heap.setIfInBounds (G0 b).b _}) hs hb I hh (λG hG _=>⟨tm,f0,?_,(h3 G hG).1⟩) (λk hk=>?_) tqS I I I⟩
 ·rw[hG b (hs.pr b _ hb),(h3 G hG).2];simp[hlt]
 ·show (w.heap.setIfInBounds _ _)[k]? =_
  rw[Dz (Ut hk)]
theorem KF:∀(ps:List Tmp) (args:List Value) (F:Fr) (K:Fr->β),Z6 z ps args F K=z\/∃F',Z6 z ps args F K=K F'/\F'.m=F.m/\F'.D=F.D/\F'.q=F.q/\ps.length=args.length/\
  ∀(G:Gh) (tm:Array Value),TR G F.T F.m tm->TR G F'.T F'.m ((ps.zip (args.map (den G))).foldl (λt x=>t.setIfInBounds x.1 x.2) tm)
 | [],[],F,K=>.inr ⟨F,I,I,I,I,I,λ_ _ h=>h⟩
 | [],_::_,_,_=>.inl I
 |_::_,[],_,_=>.inl I
 |p::ps,v::vs,F,K=>by
  have e:Z6 z (p::ps) (v::vs) F K=Iv z (some p) v F λF=>Z6 z ps vs F K:=rfl;rw[e];rcases Uw (z:=z) (d:=some p) (v:=v) (F:=F) (K:=λF=>Z6 z ps vs F K) with h|⟨F1,h,hm,hD,hq,hT⟩
  ·exact .inl h
  ·rcases KF ps vs F1 K with h2|⟨F2,h2,hm2,hD2,hq2,hl,hT2⟩
   ·exact .inl (h.trans h2)
   ·refine .inr ⟨F2,h.trans h2,hm2.trans hm,hD2.trans hD,hq2.trans hq,by simp[hl],λG tm ht=>?_⟩;have:=hT G {tmps:=tm,defers:=[]} ht;exact hT2 G _ this
theorem run_endRound {l:Nat} {r:Loop} (h:w.heap[l]? =some (.loop r)) (j:Option Code):(Instr.endRound l j).run P w=.ok (.bool j.isNone) {w with heap:=w.heap.setIfInBounds l (.loop {r with state:=if j.isNone then .ready else .done,pending:=j})}:=by
 simp[Instr.endRound,run_getLoop h,Go.setObj,Sem.run,h]
theorem LI {l:Nat} {r:Loop} (h:w.heap[l]? =some (.loop r)) (hr:r.state=.ready):(Instr.beginRound l).run P w=.ok () {w with heap:=w.heap.setIfInBounds l (.loop {r with state:=.busy})}:=by
 simp[Instr.beginRound,run_getLoop h,Go.setObj,Sem.run,h,hr]
theorem NP (b:Nat) (j:Option Code) (d:Option Nat) (all:Array Oper) (l:List Oper) (F:Fr) (H:CH) (K:E5 β) {nx:Fr->CH->β} (hnx:NxS P z all l nx K):R5 z b j d nx F H=z\/∃e F' H',R5 z b j d nx F H=K e F' H'/\F'.q=F.q/\
  ∀(r:Option Nat) (nn:Nat) al G0 a w Q,QR al G0 F.q r->FS al G0 F a->HS al G0 H w->Pm al G0 H w e F' H' Q->∃w',(Instr.endRound (G0 b).b j).run P w=.ok (.bool j.isNone) w'/\wpListIn (feR r) nn P all Q l (a.put d (.bool j.isNone)) w':=by
 unfold R5;split
 ·rename_i T m ps pre body fn df hb;rcases Tr.put_spec z (.lp (jSt j) T m ps pre body fn df j) H.h b (λh=>Iv z d (.bool j.isNone) F λF=>nx F ⟨h,H.n⟩) with h|⟨h1,h,hh⟩
  ·exact .inl h
  rw[h];rcases Uw (z:=z) (d:=d) (v:=.bool j.isNone) (F:=F) (K:=λF=>nx F ⟨h1,H.n⟩) with h2|⟨F1,h2,hm,hD,hq1,hT1⟩
  ·exact .inl h2
  ·rcases hnx F1 ⟨h1,H.n⟩ with h3|⟨e,F2,H2,h3,hq2,h4⟩
   ·exact .inl (h2.trans h3)
   ·refine .inr ⟨e,F2,H2,h2.trans h3,hq2.trans hq1,λr nn al G0 a w Q hq hf hS hT=>?_⟩;obtain⟨tm,f0,g1,g2,g3,g4⟩:=hS.setLp hb hh;refine⟨_,run_endRound g1 j,?_⟩;have hst:(if j.isNone then LoopState.ready else LoopState.done)=jSt j:=by cases j<;>rfl
    dsimp only;rw[hst];exact h4 r nn al G0 _ _ Q (by rw[hq1];exact hq) (hf.put (v:=.bool j.isNone) (λG _=>I) hD hT1) g3 (hT.to g4)
 ·exact .inl I
theorem WU {F:Fr} (hs:Lf P z ih) {o:Oper} {c:Call} {f:Operand} {b:Nat} {cap:Array Value} (hok:∀x∈o.op.operands.toList,C3 x=true) (ho:o.op=.call c) (hc:c.callee=.value f) (hv:evT F.T f=.func (.yield b) #[] cap) (all:Array Oper) (l:List Oper) (H:CH) (K:E5 β) {nx:Fr->CH->β} (hnx:NxS P z all l nx K):
  Xp z ih b (C2 (c.args.map (evT F.T))) o.dst nx F H=z\/∃e F' H',Xp z ih b (C2 (c.args.map (evT F.T))) o.dst nx F H=K e F' H'/\DL P o all l F H e F' H':=by
 have hof:C3 f=true:=hok f (by simp[ho,Op.operands,Call.operands,hc]);have hoa:∀x∈c.args.toList,C3 x=true:=λx hx=>hok x (by simp[ho,Op.operands,Call.operands,hc,J3.1 hx]);have hd:∀c,o.op≠.defer c:=λc'=>by rw[ho];simp
 unfold Xp;split
 ·rename_i st T m ps pre body fn df jj hb;rcases KF (z:=z) ps (C2 (c.args.map (evT F.T))) ⟨T,m,[],some b⟩ (λF1=>ih (.code pre) F1 H (K7 z ih b body o.dst nx F)) with h|⟨F1,h,hm,hD1,hq1,hpl,hT1⟩
  ·exact .inl h
  ·rcases hs (.code pre) F1 H (K7 z ih b body o.dst nx F) with h2|⟨e,F2,H2,h2,hq2,hpre⟩
   ·exact .inl (h.trans h2)
   ·by_cases he:e=.normal
    ·subst he;cases hb2:H2.h.get b with
     |none=>exact .inl ((h.trans h2).trans (by simp[K7,hb2]))
     |some bk=>
      cases bk with
      |lp st2 T2 m2 ps2 pre2 body2 fn2 df2 jj2=>
       by_cases hx:st2=.ready/\jj2=none
       ·obtain⟨rfl,rfl⟩:=hx;have h3:K7 z ih b body o.dst nx F .normal F2 H2=Tr.put z (.lp .busy T2 m2 ps2 pre2 body2 fn2 df2 none) H2.h b λh=>ih (.code body) F2 ⟨h,H2.n⟩ (Zs z b o.dst nx F):=by simp[K7,hb2]
        rcases Tr.put_spec z (.lp .busy T2 m2 ps2 pre2 body2 fn2 df2 none) H2.h b (λh=>ih (.code body) F2 ⟨h,H2.n⟩ (Zs z b o.dst nx F)) with h4|⟨h1',h4,hh⟩
        ·exact .inl (((h.trans h2).trans h3).trans h4)
        ·rcases hs (.code body) F2 ⟨h1',H2.n⟩ (Zs z b o.dst nx F) with h5|⟨e3,F3,H3,h5,hq3,hbody⟩
         ·exact .inl ((((h.trans h2).trans h3).trans h4).trans h5)
         ·have H0:=(((h.trans h2).trans h3).trans h4).trans h5;have fin:∀(j:Option Code),Zs z b o.dst nx F e3 F3 H3=R5 z b j o.dst nx F H3->(∀(G:Gh) (R:Ending->World->Prop) (a:Act) (w:World) (lb:Nat),(∃w',(Instr.endRound lb j).run P w=.ok (.bool j.isNone) w'/\R (.returned (.bool j.isNone)) w')->roundPost P lb R (exD G e3) a w)->
            (Z6 z ps (C2 (c.args.map (evT F.T))) ⟨T,m,[],some b⟩ λF1=>ih (.code pre) F1 H (K7 z ih b body o.dst nx F))=z\/∃e F' H',(Z6 z ps (C2 (c.args.map (evT F.T))) ⟨T,m,[],some b⟩ λF1=>ih (.code pre) F1 H (K7 z ih b body o.dst nx F))=K e F' H'/\DL P o all l F H e F' H':=λj hj hpost=>by
           rcases NP b j o.dst all l F H3 K hnx with h6|⟨e4,F4,H4,h6,hq4,hend⟩
           ·exact .inl ((H0.trans hj).trans h6)
           ·refine .inr ⟨e4,F4,H4,(H0.trans hj).trans h6,hq4,λr nn al G0 a w Q K' hq hf hS hT hK=>Qi hd ?_⟩;have hab:=hS.pr b _ hb;obtain⟨tm,f0,g1,g2⟩:=(hS.hr G0 .rfl).bk b _ hb I;have g3:∀G,Ag al G0 G->TR G T m tm:=λG hG=>by
             obtain⟨tm',f0',k1,k2⟩:=(hS.hr G hG).bk b _ hb I;rw[hG b hab,g1] at k1;injection k1 with k3
             injection k3 with k3
             injection k3 with _ _ _ e1
             rw[e1];exact k2
            have ea:∀G,Ag al G0 G->a.eval f=.func (.yield (G b).b) #[] ⟨(C2 cap).map (den G)⟩:=λG hG=>by
             rw[Cz (hf G hG).1 hof,hv];exact Ma G _ [] _
            have hargs:=IC hf hoa;have hsz:(c.args.map a.eval).size=ps.toArray.size:=by
             rw[<-Kj,hargs G0 .rfl,Cr,<-hpl];simp
            have hrun:(execOp a.eval o).run P w=.ok (.round (G0 b).b f0 ((ps.toArray.zip (c.args.map a.eval)).foldl (λt x=>t.setIfInBounds x.1 x.2) tm) pre body) w:=by
             simp only[execOp,ho,resolve,hc,ea G0 .rfl,Deferred.ofValue,invoke,Ba,Bh,An,Array.empty_append];simp[Instr.yield,run_getLoop g1,hsz]
            rw[hrun];refine⟨λh=>(nomatch h),?_⟩;have hfr:FS al G0 F1 {tmps:=(ps.toArray.zip (c.args.map a.eval)).foldl (λt x=>t.setIfInBounds x.1 x.2) tm,defers:=[]}:=λG hG=>by
             refine⟨?_,by rw[hD1];rfl⟩;have:=hT1 G tm (g3 G hG);rw[<-hargs G hG] at this;rw[<-Array.foldl_toList,Array.toList_zip];exact this
            refine roundIn_of_wpIn trivial ?_;refine hpre (some (G0 b).b) (nn- 1) al G0 _ w _ (by rw[hq1];exact⟨hab,I⟩) hfr hS λal1 G1 a1 w1 t1 hS1 hf1=>?_;obtain⟨tm2,f2,p1,p2,p3,p4⟩:=hS1.setLp hb2 hh;have eb:(G1 b).b=(G0 b).b:=by rw[(t1.up b hab).2]
            rw[eb] at p1;refine⟨_,LI p1 I,?_⟩;rw[eb] at p3 p4;have t2:=t1.trans p4;refine hbody (some (G0 b).b) (nn- 1) al1 G1 a1 _ _ (by rw[hq2,hq1];exact⟨(t1.up b hab).1,by rw[eb]⟩) hf1 p3 λal3 G3 a3 w3 t3 hS3 hf3=>?_;have t4:=t2.trans t3;obtain⟨w4,q1,q2⟩:=hend r nn al3 G3 a w3 Q (hq.to t4) (hf.to t4) hS3 (hT.to t4);rw[(t4.up b hab).2] at q1;exact hpost _ _ _ _ _ ⟨w4,q1,hK _ _ q2⟩
          cases e3 with
          |normal=>exact fin none I λG R a w lb h=>let ⟨w',h1,h2⟩:=h;⟨_,w',h1,h2⟩
          |exit id=>exact fin (some (.exit id)) I λG R a w lb h=>let ⟨w',h1,h2⟩:=h;⟨_,w',h1,h2⟩
          |goto t=>exact fin (some (.goto t)) I λG R a w lb h=>let ⟨w',h1,h2⟩:=h;⟨_,w',h1,h2⟩
          |ret=>exact fin (some .ret) I λG R a w lb h=>let ⟨w',h1,h2⟩:=h;⟨_,w',h1,h2⟩
          |panic v=>exact .inl H0
          |val v=>exact .inl H0
       ·refine .inl ((h.trans h2).trans ?_);cases st2<;>cases jj2<;>first|exact absurd ⟨rfl,rfl⟩ hx|simp[K7,hb2]
      |c cs t op=>exact .inl ((h.trans h2).trans (by simp[K7,hb2]))
      |o x=>exact .inl ((h.trans h2).trans (by simp[K7,hb2]))
      |d=>exact .inl ((h.trans h2).trans (by simp[K7,hb2]))
    ·refine .inl ((h.trans h2).trans ?_);cases e<;>first|exact absurd rfl he|simp[K7]
 ·exact .inl I
theorem UW {l:Nat} {r:Loop} (h:w.heap[l]? =some (.loop r)) (hr:r.state≠.busy):(Instr.endLoop l).run P w=.ok r.pending {w with heap:=w.heap.setIfInBounds l (.loop {r with state:=.exhausted})}:=by
 simp[Instr.endLoop,run_getLoop h,Go.setObj,Sem.run,h];exact λhb=>absurd hb hr
theorem DI (hs:Lf P z ih) (g:FuncId) (args:List Value) (l:Nat) (F1:Fr) (H:CH) (K:E5 β):Wh z ih g args l F1 H K=z\/∃e F' H',Wh z ih g args l F1 H K=K e F' H'/\F'.q=F1.q/\
  ∀(r:Option Nat) (nn:Nat) al G0 a w (vs:Array Value) Q,al l->QR al G0 F1.q r->FS al G0 F1 a->HS al G0 H w->(∀G,Ag al G0 G->vs=⟨args.map (den G)⟩)->Pm al G0 H w e F' H' Q->CallsIn (feR r) (nn- 1) P g vs w (rangePost (feR r) nn P (G0 l).b Q a):=by
 rcases hs (.fn g args) noF H (Tn z ih l F1 K) with h|⟨e,Fx,H1,h,hfn⟩
 ·exact .inl h
 ·cases e with
  |val v=>
   cases hb:H1.h.get l with
   |none=>exact .inl (h.trans (by simp[Tn,hb]))
   |some bk=>
    cases bk with
    |lp st T m ps pre body fn df j=>
     by_cases hst:st=.busy
     ·subst hst;exact .inl (h.trans (by simp[Tn,hb]))
     ·have h2:Tn z ih l F1 K (.val v) Fx H1=Tr.put z .d H1.h l λh1=>UC ih j F1 ⟨h1,H1.n⟩ K:=by
       cases st<;>first|exact absurd rfl hst|simp[Tn,hb]
      rcases Tr.put_spec z .d H1.h l (λh1=>UC ih j F1 ⟨h1,H1.n⟩ K) with h3|⟨h1',h3,hh⟩
      ·exact .inl ((h.trans h2).trans h3)
      ·
       have after:∀al G0 w al1 G1 w1,al l->To al G0 H w al1 G1 H1 w1->HS al1 G1 H1 w1->∃w2,(Instr.endLoop (G0 l).b).run P w1=.ok j w2/\HS al1 G1 ⟨h1',H1.n⟩ w2/\To al G0 H w al1 G1 ⟨h1',H1.n⟩ w2:=λal G0 w al1 G1 w1 hl t1 hS1=>by
        obtain⟨tm,f0,g1,g2⟩:=(hS1.hr G1 .rfl).bk l _ hb I;have el:(G1 l).b=(G0 l).b:=by rw[(t1.up l hl).2]
        rw[<-el];refine⟨_,UW g1 hst,?_⟩
        ·obtain⟨k1,k2⟩:=HS.write (w':= {w1 with heap:=w1.heap.setIfInBounds (G1 l).b (.loop {state:=.exhausted,pending:=j,fn:=f0,tmps:=tm,params:=ps.toArray,assign:=pre,body:=body,defers:=(G1 df).b})}) hS1 hb I hh (λ_ _ h=>nomatch h) (λk hk=>by
          show (w1.heap.setIfInBounds _ _)[k]? =_
          rw[Dz (Ut hk)]) tqS I I I
         exact⟨k1,t1.trans k2⟩
       cases j with
       |none=>
        refine .inr ⟨.normal,F1,⟨h1',H1.n⟩,(h.trans h2).trans h3,I,λr nn al G0 a w vs Q hl hq hf hS hvs hT=>?_⟩;refine hfn r (nn- 1) al G0 vs w _ hvs hS (λal1 G1 w1 t1 hS1 u hu=>?_) (.inl ⟨v,I⟩);obtain⟨w2,q1,q2,q3⟩:=after al G0 w al1 G1 w1 hl t1 hS1;exact⟨none,w2,q1,hT al1 G1 a w2 q3 q2 (hf.to q3)⟩
       |some c=>
        rcases hs (.code c) F1 ⟨h1',H1.n⟩ K with h5|⟨e2,F2,H2,h5,hq2,hc⟩
        ·exact .inl (((h.trans h2).trans h3).trans h5)
        ·refine .inr ⟨e2,F2,H2,((h.trans h2).trans h3).trans h5,hq2,λr nn al G0 a w vs Q hl hq hf hS hvs hT=>?_⟩;refine hfn r (nn- 1) al G0 vs w _ hvs hS (λal1 G1 w1 t1 hS1 u hu=>?_) (.inl ⟨v,I⟩);obtain⟨w2,q1,q2,q3⟩:=after al G0 w al1 G1 w1 hl t1 hS1;exact⟨some c,w2,q1,hc r nn al1 G1 a w2 Q (hq.to q3) (hf.to q3) q2 (hT.to q3)⟩
    |c cs t op=>exact .inl (h.trans (by simp[Tn,hb]))
    |o x=>exact .inl (h.trans (by simp[Tn,hb]))
    |d=>exact .inl (h.trans (by simp[Tn,hb]))
  |_=>exact .inl (h.trans (by simp[Tn]))
end
section
variable {P:Program} {β:Type} {z:β} {ih:Ev β}
theorem run_enterLoop_outer {w:World} (fn:FuncId) (tmps:Array Value) (ps:Array Tmp) (pre body:Code):
  (Instr.enterLoop fn tmps ps pre body none).run P w=.ok (w.heap.size+1,[{target:=.collected w.heap.size,args:= #[]}])
   ((w.alloc (.deferred (some []))).alloc (.loop {state:=.ready,pending:=none,fn:=fn,tmps:=tmps,params:=ps,assign:=pre,body:=body,defers:=w.heap.size})):=by
 unfold Instr.enterLoop;simp only[Ba,run_newObj_alloc,Result.andThen,Bh,Uf]
theorem DH {a:Act} {f:Operand} {g:FuncId} {first cap:List Value} (hB:tyB P g=true) (he:a.eval f=.func (.func g) ⟨first⟩ ⟨cap⟩) (l:Nat) (w:World):
  ∃d,(resolve a.eval (rangeCall f l) 0).run P w=.ok d w/\(invoke d.target d.args).run P w=.ok (.enter g ⟨first++(.func (.yield l) #[] #[]::cap)⟩) w:=by
 have hE:∀args w,(callFunc g args).run P w=.ok (.enter g args) w:=Qh hB;refine⟨{target:=.fn (.func g) ⟨cap⟩,args:=(⟨first⟩:Array Value)++ #[.func (.yield l) #[] #[]]},?_,?_⟩
 ·have hm:(#[.const (.func (.yield l) #[] #[])]:Array Operand).map a.eval= #[.func (.yield l) #[] #[]]:=by
   apply Cn;simp[Act.eval]
  simp only[resolve,he,Deferred.ofValue,Bh,hm]
 ·simp only[invoke,hE]
  congr 2
  apply Cn;simp
theorem WQ (hs:Lf P z ih) (f:Operand) (ps:Array Tmp) (pre body:Code) (F:Fr) (H:CH) (K:E5 β):BN P z ih f ps.toList pre body F H K=z\/∃e F' H',BN P z ih f ps.toList pre body F H K=K e F' H'/\QK P (.rangeFunc f ps pre body) F H e F' H':=by
 unfold BN;split
 ·rename_i g first cap hof hv
  have ea:∀al G0 a,FS al G0 F a->∀G,Ag al G0 G->a.eval f=.func (.func g) ⟨(C2 first).map (den G)⟩ ⟨(C2 cap).map (den G)⟩:=λal G0 a hf G hG=>by
   rw[Cz (hf G hG).1 hof,hv];exact Ma G _ _ _
  split
  ·rename_i hB hq0;rcases Tr.put_spec z (.o (.deferred (some []))) H.h H.n (λh=>Tr.put z (.lp .ready F.T F.m ps.toList pre body g H.n none) h (Nat.succ H.n) λh=>
    Wh z ih g (C2 first++(.func (.yield (Nat.succ H.n)) #[] #[]::C2 cap)) (Nat.succ H.n) ⟨F.T,F.m,{target:=.collected H.n,args:= #[]}::F.D,none⟩ ⟨h,Nat.succ (Nat.succ H.n)⟩ K) with h|⟨h1,h,hh1⟩
   ·exact .inl h
   rw[h];rcases Tr.put_spec z (.lp .ready F.T F.m ps.toList pre body g H.n none) h1 (Nat.succ H.n) (λh=>
    Wh z ih g (C2 first++(.func (.yield (Nat.succ H.n)) #[] #[]::C2 cap)) (Nat.succ H.n) ⟨F.T,F.m,{target:=.collected H.n,args:= #[]}::F.D,none⟩ ⟨h,Nat.succ (Nat.succ H.n)⟩ K) with h'|⟨h2,h',hh2⟩
   ·exact .inl h'
   rw[h'];rcases DI (P:=P) hs g (C2 first++(.func (.yield (Nat.succ H.n)) #[] #[]::C2 cap)) (Nat.succ H.n) ⟨F.T,F.m,{target:=.collected H.n,args:= #[]}::F.D,none⟩ ⟨h2,Nat.succ (Nat.succ H.n)⟩ K with h3|⟨e,F',H',h3,hq3,hgo⟩
   ·exact .inl h3
   ·refine .inr ⟨e,F',H',h3,hq3.trans hq0.symm,λr nn al G0 a w Q hq hf hS hT=>?_⟩;have hr:r=none:=by rw[hq0] at hq;exact hq
    subst hr;have A1:=HS.alloc (w':=w.alloc (.deferred (some []))) ⟨w.heap.size,0,0,0,0⟩ hS hh1 (λG hG hn _=>by
     show (w.alloc (.deferred (some []))).heap[(G H.n).b]? =_
     rw[hn];exact E6 w _) (λj hj=>Gw w _ j hj) (λ_=>Ak _) tqS I I I
    generalize hal1:(λk=>al k\/k=H.n)=al1 at A1;generalize hG1:(λk=>if k=H.n then(⟨w.heap.size,0,0,0,0⟩:GI) else G0 k)=G1 at A1;obtain⟨hS1,t1⟩:=A1;have hn1:G1 H.n=⟨w.heap.size,0,0,0,0⟩:=by rw[<-hG1];simp
    have hal:al1 H.n:=by rw[<-hal1];exact .inr I
    have hf1:=hf.to t1;refine Wr λfn _=>?_;have A2:=HS.alloc (H:=⟨h1,H.n+1⟩) (w:=w.alloc (.deferred (some []))) (w':=(w.alloc (.deferred (some []))).alloc (.loop {state:=.ready,pending:=none,fn:=fn,tmps:=a.tmps,params:=ps,assign:=pre,body:=body,defers:=w.heap.size}))
     (h':=h2) ⟨w.heap.size+1,0,0,0,0⟩ hS1 hh2 (λG hG hn _=>by
     refine⟨a.tmps,fn,?_,(hf1 G hG).1⟩;rw[hG H.n hal,hn1,hn];have:=E6 (w.alloc (.deferred (some []))) (.loop {state:=.ready,pending:=none,fn:=fn,tmps:=a.tmps,params:=ps,assign:=pre,body:=body,defers:=w.heap.size});rw[Uf] at this;simpa using this) (λj hj=>Gw _ _ j hj) (λ_=>by simp) tqS I I I
    generalize hal2:(λk=>al1 k\/k=H.n+1)=al2 at A2;generalize hG2:(λk=>if k=H.n+1 then(⟨w.heap.size+1,0,0,0,0⟩:GI) else G1 k)=G2 at A2;obtain⟨hS2,t2⟩:=A2;have hn2:G2 (H.n+1)=⟨w.heap.size+1,0,0,0,0⟩:=by rw[<-hG2];simp
    have hall:al2 (H.n+1):=by rw[<-hal2];exact .inr I
    have t3:=t1.trans t2;obtain⟨d,r1,r2⟩:=DH hB (ea al G0 a hf G0 .rfl) (w.heap.size+1) ((w.alloc (.deferred (some []))).alloc (.loop {state:=.ready,pending:=none,fn:=fn,tmps:=a.tmps,params:=ps,assign:=pre,body:=body,defers:=w.heap.size}));refine⟨w.heap.size+1,[{target:=.collected w.heap.size,args:= #[]}],_,d,_,g,_,_,run_enterLoop_outer fn a.tmps ps pre body,r1,λ_ _=>trivial,r2,λh=>(nomatch h),?_⟩;have hgo:=hgo none nn al2 G2 {a with defers:=[{target:=.collected w.heap.size,args:= #[]}]++a.defers} _ ⟨(C2 first).map (den G0)++(.func (.yield (w.heap.size+1)) #[] #[]::(C2 cap).map (den G0))⟩ Q hall I (λG hG=>?_) hS2 (λG hG=>?_) (hT.to t3)
    ·rw[hn2] at hgo;exact hgo
    ·obtain⟨q1,q2⟩:=hf.to t3 G hG;refine⟨q1,?_⟩;have hGn:(G H.n).b=w.heap.size:=by
      rw[hG H.n (t2.up H.n hal).1,(t2.up H.n hal).2,hn1]
     simp only[Bj,List.singleton_append,Q7];refine⟨?_,q2⟩;simp[Ve,RQ,hGn]
    ·have e1:=ea al G0 a hf G (hG.mono t3.up);rw[ea al G0 a hf G0 .rfl] at e1;injection e1 with _ e2 e3
     injection e2 with e2
     injection e3 with e3
     have hGn:(G (Nat.succ H.n)).b=w.heap.size+1:=by
      rw[hG (H.n+1) hall,hn2]
     have hy:den G (.func (.yield (Nat.succ H.n)) #[] #[])=.func (.yield (w.heap.size+1)) #[] #[]:=by
      rw[show (.func (.yield (Nat.succ H.n)) #[] #[]:Value)=.func (.yield (Nat.succ H.n)) ⟨[]⟩ ⟨[]⟩ from I,Ma];simp[dF,hGn]
     rw[e2,e3,D6,Bj,hy]
  ·rename_i b hB hq0;split
   ·rename_i st T0 m0 ps0 pre0 body0 fn0 df j0 hb;rcases Tr.put_spec z (.lp .ready F.T F.m ps.toList pre body g df none) H.h H.n (λh=>
     Wh z ih g (C2 first++(.func (.yield H.n) #[] #[]::C2 cap)) H.n F ⟨h,Nat.succ H.n⟩ K) with h'|⟨h2,h',hh2⟩
    ·exact .inl h'
    rw[h'];rcases DI (P:=P) hs g (C2 first++(.func (.yield H.n) #[] #[]::C2 cap)) H.n F ⟨h2,Nat.succ H.n⟩ K with h3|⟨e,F',H',h3,hq3,hgo⟩
    ·exact .inl h3
    ·refine .inr ⟨e,F',H',h3,hq3,λr nn al G0 a w Q hq hf hS hT=>?_⟩;have hr:r=some (G0 b).b:=by rw[hq0] at hq;exact hq.2
     have hab:=hS.pr b _ hb;obtain⟨tm0,f0,g1,_⟩:=(hS.hr G0 .rfl).bk b _ hb I;have hdf:∀G,Ag al G0 G->(G df).b=(G0 df).b:=λG hG=>by
      obtain⟨tm',f',k1,_⟩:=(hS.hr G hG).bk b _ hb I;rw[hG b hab,g1] at k1;injection k1 with k2
      injection k2 with k2
      injection k2 with _ _ _ _ _ _ _ e2
      exact e2.symm
     refine Wr λfn _=>?_;have A2:=HS.alloc (w':=w.alloc (.loop {state:=.ready,pending:=none,fn:=fn,tmps:=a.tmps,params:=ps,assign:=pre,body:=body,defers:=(G0 df).b}))
      (h':=h2) ⟨w.heap.size,0,0,0,0⟩ hS hh2 (λG hG hn _=>by
      refine⟨a.tmps,fn,?_,(hf G hG).1⟩;rw[hdf G hG,hn];have:=E6 w (.loop {state:=.ready,pending:=none,fn:=fn,tmps:=a.tmps,params:=ps,assign:=pre,body:=body,defers:=(G0 df).b});simpa using this) (λj hj=>Gw _ _ j hj) (λ_=>Ak _) tqS I I I
     generalize hal2:(λk=>al k\/k=H.n)=al2 at A2;generalize hG2:(λk=>if k=H.n then(⟨w.heap.size,0,0,0,0⟩:GI) else G0 k)=G2 at A2;obtain⟨hS2,t3⟩:=A2;have hn2:G2 H.n=⟨w.heap.size,0,0,0,0⟩:=by rw[<-hG2];simp
     have hall:al2 H.n:=by rw[<-hal2];exact .inr I
     obtain⟨d,r1,r2⟩:=DH hB (ea al G0 a hf G0 .rfl) w.heap.size (w.alloc (.loop {state:=.ready,pending:=none,fn:=fn,tmps:=a.tmps,params:=ps,assign:=pre,body:=body,defers:=(G0 df).b}));have henter:(Instr.enterLoop fn a.tmps ps pre body (feR r).round).run P w=.ok (w.heap.size,[]) (w.alloc (.loop {state:=.ready,pending:=none,fn:=fn,tmps:=a.tmps,params:=ps,assign:=pre,body:=body,defers:=(G0 df).b})):=by
      show (Instr.enterLoop fn a.tmps ps pre body r).run P w=_
      rw[hr];exact run_enterLoop_inner g1 fn a.tmps ps pre body
     refine⟨w.heap.size,[],_,d,_,g,_,_,henter,r1,λ_ _=>trivial,r2,λh=>(nomatch h),?_⟩;have hgo:=hgo r nn al2 G2 a _ ⟨(C2 first).map (den G0)++(.func (.yield w.heap.size) #[] #[]::(C2 cap).map (den G0))⟩ Q hall (hq.to t3) (hf.to t3) hS2 (λG hG=>?_) (hT.to t3)
     ·rw[hn2] at hgo;exact hgo
     ·have e1:=ea al G0 a hf G (hG.mono t3.up);rw[ea al G0 a hf G0 .rfl] at e1;injection e1 with _ e2 e3
      injection e2 with e2
      injection e3 with e3
      have hGn:(G H.n).b=w.heap.size:=by rw[hG H.n hall,hn2]
      have hy:den G (.func (.yield H.n) #[] #[])=.func (.yield w.heap.size) #[] #[]:=by
       rw[show (.func (.yield H.n) #[] #[]:Value)=.func (.yield H.n) ⟨[]⟩ ⟨[]⟩ from I,Ma];simp[dF,hGn]
      rw[e2,e3,D6,Bj,hy]
   ·exact .inl I
  ·exact .inl I
 ·exact .inl I
end
mutual
theorem Y9:∀a b:Value,Oh a b=true->a=b
 | .bool a,.bool b,h=>by simp only[Oh,Kq] at h;rw[h]
 | .int j a,.int k b,h=>by simp only[Oh,Ad,Aq,Kq] at h;rw[h.1,h.2]
 | .string a,.string b,h=>by
  simp only[Oh,Kq] at h;obtain⟨⟨a⟩⟩:=a;obtain⟨⟨b⟩⟩:=b;have h:a=b:=h;rw[h]
 | .pointer none,.pointer none,_=>rfl
 | .pointer (some a),.pointer (some b),h=>by simp only[Oh,Aq] at h;rw[h]
 | .slice none l c,.slice none l' c',h=>by simp only[Oh,Ad,Es] at h;rw[h.1,h.2]
 | .slice (some a) l c,.slice (some b) l' c',h=>by simp only[Oh,Ad,Aq,Es] at h;rw[h.1,h.2.1,h.2.2]
 | .map none,.map none,_=>rfl
 | .map (some a),.map (some b),h=>by simp only[Oh,Es] at h;rw[h]
 | .func (.func f) ⟨a⟩ ⟨b⟩,.func (.func g) ⟨c⟩ ⟨d⟩,h=>by
  simp only[Oh,Ad,Es] at h;rw[h.1,Pz a c h.2.1,Pz b d h.2.2]
 | .nilFunc,.nilFunc,_=>rfl
 | .nilIface,.nilIface,_=>rfl
 | .agg ⟨a⟩,.agg ⟨b⟩,h=>by simp only[Oh] at h;rw[Pz a b h]
 | .tuple ⟨a⟩,.tuple ⟨b⟩,h=>by simp only[Oh] at h;rw[Pz a b h]
theorem Pz:∀a b:List Value,Ro a b=true->a=b
 | [],[],_=>rfl
 |a::xs,b::ys,h=>by
  simp only[Ro,Ad] at h;rw[Y9 a b h.1,Pz xs ys h.2]
end
section
variable {P:Program} {β:Type} {z:β} {ih:Ev β} {cau:FuncId->Bool} {te:TypeId} {kn:Kn}
theorem RO (hs:Lf P z ih) (hcau:∀g,cau g=true->Jh P g/\Ld P g te te) (l:List Deferred) (F:Fr) (H:CH) (K:E5 β):FO P z cau ih l F H K=z\/∃e F' H',FO P z cau ih l F H K=K e F' H'/\Alu P l H e H':=by
 cases l with
 |nil=>exact .inr ⟨.normal,F,H,I,I,λnn fn tm al G0 w R ds hds hS hR=>by
   rw[hds G0 .rfl];exact hR al G0 w .rfl hS⟩
 |cons d l=>
  obtain⟨tg,ar⟩:=d;dsimp only[FO];split
  ·rename_i g;split
   ·rename_i pa K0 lb hg;simp only[Ad] at hg;have hE:∀args w,(callFunc g args).run P w=.ok (.enter g args) w:=Qh hg.2;rcases hs (.defers l) F H K with h|⟨e,F',H',h,he,hd⟩
    ·exact .inl h
    ·refine .inr ⟨e,F',H',h,he,λnn fn tm al G0 w R ds hds hS hR=>?_⟩;have h0:=hds G0 .rfl;obtain⟨lb⟩:=lb;have hx:Ve G0 {target:=.fn (.func g) ⟨[]⟩,args:=⟨[.pointer (some pa),.func (.func K0) ⟨[]⟩ ⟨lb⟩]⟩}= {target:=.fn (.func g) #[],args:= #[.pointer (some (dA G0 pa)),.func (.func K0) #[] ⟨lb.map (den G0)⟩]}:=by
      simp[Ve,RQ,dF,den,O5]
     rw[Bj,hx] at h0;rw[h0];refine⟨tqS,.inr ⟨λhd=>by simp[Fence.wide] at hd,_,_,g,#[.pointer (some (dA G0 pa)),.func (.func K0) #[] ⟨lb.map (den G0)⟩],I,by simp[invoke,hE],λ_ _=>trivial,?_⟩⟩;refine Xx ((hcau g hg.1).1 (nn- 1) _ K0 _ w) ?_;rintro e u' w' ⟨rfl,rfl,hw'⟩;rw[hw'];refine hd nn fn tm al G0 w R _ (λG hG=>?_) hS hR;have h1:=hds G hG;rw[hds G0 .rfl,Bj,Bj] at h1;exact(Ql h1).2
   ·exact .inl I
  ·rename_i b;split
   ·rename_i hb;rcases Tr.put_spec z .d H.h b (λh=>ih (.defers l) F ⟨h,H.n⟩ K) with h|⟨h1,h,hh⟩
    ·exact .inl h
    rw[h];rcases hs (.defers l) F ⟨h1,H.n⟩ K with h|⟨e,F',H',h,he,hd⟩
    ·exact .inl h
    ·refine .inr ⟨e,F',H',h,he,λnn fn tm al G0 w R ds hds hS hR=>?_⟩;have h0:=hds G0 .rfl;rw[h0];have hbw:w.heap[(G0 b).b]? =some (.deferred (some [])):=(hS.hr G0 .rfl).bk b _ hb I;have hlt:(G0 b).b<w.heap.size:=(B5.1 hbw).1;obtain⟨k1,k2⟩:=HS.write (w':=w.putObj (G0 b).b (.deferred none)) hS hb I hh (λ_ _ h=>nomatch h) (λj hj=>Gb hj) tqS I I I;refine⟨tqS,.inl ⟨(G0 b).b,_,I,run_takeDeferred hbw,?_⟩⟩;refine hd nn fn tm al G0 _ R _ (λG hG=>?_) k1 λal' G' w' t1 t2=>hR al' G' w' (k2.trans t1) t2;have h1:=hds G hG;rw[h0,Bj] at h1;exact(Ql h1).2
   ·exact .inl I
  ·exact .inl I
theorem ET:∀(rs:List ResultVar) (F:Fr) (H:CH) (K:List Value->β),ES P z F H rs K=z\/∃vs,ES P z F H rs K=K vs/\vs.length=rs.length/\
  ∀(G:Gh) (tm:Array Value) (w:World),TR G F.T F.m tm->HR G H.h w->(rs.mapM (R3 tm)).run P w=.ok (vs.map (den G)) w
 | [],F,H,K=>.inr ⟨[],I,I,λ_ _ _ _ _=>I⟩
 | .tmp t::rs,F,H,K=>by
  have e:ES P z F H (.tmp t::rs) K=ES P z F H rs λvs=>K (evT F.T (.tmp t)::vs):=rfl;rw[e];rcases ET rs F H (λvs=>K (evT F.T (.tmp t)::vs)) with h|⟨vs,h,hl,h2⟩
  ·exact .inl h
  ·refine .inr ⟨_,h,by simp[hl],λG tm w ht hr=>?_⟩;have h3:=h2 G tm w ht hr;simp only[Sc,R3,Ba,Bh,An,h3,Bj];rw[ht.2 t,<-Yv]
 | .cell a t::rs,F,H,K=>by
  have e:ES P z F H (.cell a t::rs) K=AA P z t (evT F.T (.tmp a)) H λv=>ES P z F H rs λvs=>K (v::vs):=I;rw[e];unfold AA;split
  ·rename_i b off hu;split
   ·rename_i cs ty op hb;split
    ·rename_i kd hk;rcases Yk (z:=z) kd cs off (λv=>ES P z F H rs λvs=>K (v::vs)) with h|⟨v,h,hv⟩
     ·exact .inl h
     ·rcases ET rs F H (λvs=>K (v::vs)) with h1|⟨vs,h1,hl,h2⟩
      ·exact .inl (h.trans h1)
      ·refine .inr ⟨_,h.trans h1,by simp[hl],λG tm w ht hr=>?_⟩;have h3:=h2 G tm w ht hr;have e1:=ht.2 a;rw[<-Yv,hu] at e1;simp only[den] at e1;have h4:=hr.load hb hk hv;simp only[Sc,R3,e1,asAddr,Ba,Bh,An,h3,h4,Bj]
    ·exact .inl I
   ·exact .inl I
  ·exact .inl I
theorem KH:∀(vs:List Value) (i:Nat) (T:Tr Value) (K:Tr Value->β),Z7 z vs i T K=z\/∃T',Z7 z vs i T K=K T'/\∀j,T'.get j=if i<=j/\j<i+vs.length then vs[j- i]? else T.get j
 | [],i,T,K=>.inr ⟨T,I,λj=>by
  rw[Ar];simp only[Ep];omega⟩
 |v::vs,i,T,K=>by
  have e:Z7 z (v::vs) i T K=Tr.put z v T i λT=>Z7 z vs (i+1) T K:=rfl;rw[e];rcases Tr.put_spec z v T i (λT=>Z7 z vs (i+1) T K) with h|⟨T1,h,h1⟩
  ·exact .inl h
  ·rcases KH vs (i+1) T1 K with h2|⟨T2,h2,h3⟩
   ·exact .inl (h.trans h2)
   ·refine .inr ⟨T2,h.trans h2,λj=>?_⟩;rw[h3,h1];simp only[Ct];by_cases hj:j=i
    ·subst hj;rw[Ar tqO,Bi I,Bi tqO];simp
    ·by_cases hr:i+1<=j/\j<i+1+vs.length
     ·rw[Bi hr,Bi tqO,show j- i=(j- (i+1))+1 by omega];simp
     ·rw[Ar hr,Ar hj,Ar tqO]
theorem Abk {fn:Func} {tm:Array Value} {w:World} {xs:List Value} (h:(fn.results.toList.mapM (R3 tm)).run P w=.ok xs w):(results fn tm).run P w=.ok (AK xs) w:=by
 have h2:(fn.results.mapM (R3 tm)).run P w=.ok xs.toArray w:=by
  rw[Array.mapM_eq_mapM_toList,Sem.run_map];rw[h];rfl
 rw[LH];simp only[Ba,h2,An,Bh]
 congr 1
 match xs with
 | []=>rfl
 | [u]=>rfl
 |u::u'::us=>simp[AK]
theorem Acy (G:Gh) (vs:List Value):den G (AK vs)=AK (vs.map (den G)):=by
 match vs with
 | []=>exact Rn G []
 | [u]=>rfl
 |u::u'::us=>exact Rn G (u::u'::us)
theorem HA (hs:Lf P z ih) (fn:Func) (F1:Fr) (l:List Deferred) (H1:CH) (K:E5 β):ih (.defers l) F1 H1 (Z9 P z fn F1 K)=z\/∃v H',ih (.defers l) F1 H1 (Z9 P z fn F1 K)=K (.val v) noF H'/\
  ∀(nn:Nat) al1 G1 (tm:Array Value) (ds:List Deferred) w1 (R:Ending->World->Prop),(∀G,Ag al1 G1 G->TR G F1.T F1.m tm)->(∀G,Ag al1 G1 G->ds=l.map (Ve G))->HS al1 G1 H1 w1->
   (∀al' G' w',To al1 G1 H1 w1 al' G' H' w'->HS al' G' H' w'->∀u,(∀G,Ag al' G' G->u=den G v)->R (.returned u) w')->LeavesInM Fence.wide nn P fn tm R ds .returning w1:=by
 rcases hs (.defers l) F1 H1 (Z9 P z fn F1 K) with h3|⟨e2,F2,H2,h3,_,hdef⟩
 ·exact .inl h3
 ·rcases ET (P:=P) (z:=z) fn.results.toList F1 H2 (λvs=>K (.val (AK vs)) noF H2) with h4|⟨vs,h4,_,hres⟩
  ·exact .inl (h3.trans h4)
  ·refine .inr ⟨_,_,h3.trans h4,λnn al1 G1 tm ds w1 R ht hds hS1 hR=>?_⟩;refine hdef nn fn tm al1 G1 w1 R ds hds hS1 λal2 G2 w2 t2 hS2=>?_;have run:∀G,Ag al2 G2 G->(results fn tm).run P w2=.ok (den G (AK vs)) w2:=λG hG=>by
    rw[Acy];exact Abk (hres G tm w2 (ht G (hG.mono t2.up)) (hS2.hr G hG))
   refine⟨den G2 (AK vs),run G2 .rfl,hR al2 G2 w2 t2 hS2 _ λG hG=>?_⟩;have e1:=run G hG;rw[run G2 .rfl] at e1;injection e1
def Aoq (e:Ex) (al':Nat->Prop) (G':Gh) (w':World) (R:Ending->World->Prop):Prop:=match e with
 | .val v=>∀u,(∀G,Ag al' G' G->u=den G v)->R (.returned u) w'
 | .panic v=>R (.panicked [{v:=den G' v,recovered:=false}]) w'
 |_=>True
theorem VK (hs:Lf P z ih) (hcau:∀g,cau g=true->Jh P g/\Ld P g te te) (fn:Func) (F:Fr) (v:Value) (K:E5 β):∀(l:List Deferred) (H:CH),upK P z cau te ih fn F v K l H=z\/∃e H',upK P z cau te ih fn F v K l H=K e noF H'/\
  ((∃v,e=.val v)\/∃v,e=.panic v)/\∀al G0 (tm:Array Value) (ds:List Deferred) w (R:Ending->World->Prop),(∀G,Ag al G0 G->TR G F.T F.m tm)->(∀G,Ag al G0 G->ds=l.map (Ve G))->HS al G0 H w->
   (∀al' G' w',To al G0 H w al' G' H' w'->HS al' G' H' w'->Aoq e al' G' w' R)->LeavesInM Fence.wide 8 P fn tm R ds (.panicking [{v:=den G0 v,recovered:=false}]) w
 | [],H=>.inr ⟨.panic v,H,I,.inr ⟨v,I⟩,λal G0 tm ds w R ht hds hS hR=>by
  rw[hds G0 .rfl];exact hR al G0 w .rfl hS⟩
 |d::l,H=>by
  obtain⟨tg,ar⟩:=d;have e:upK P z cau te ih fn F v K (⟨tg,ar⟩::l) H=match tg with
   | .fn (.func g) ⟨[]⟩=>match cau g&&tyB P g,ar,v with
    |true,⟨[.pointer (some ⟨pe,0,none⟩),.func (.func k) ⟨[]⟩ ⟨lb⟩]⟩,.iface t (.int .i64 n)=>match Nat.beq t te&&tyB P k,H.h.get pe with
     |true,some (.c _ _ 0)=>ih (.fn k lb) noF H (upC P z te ih pe n l fn F K)
     |_,_=>z
    |_,_,_=>z
   | .collected b=>match H.h.get b with
    |some (.o (.deferred (some [])))=>Tr.put z .d H.h b λh=>upK P z cau te ih fn F v K l ⟨h,H.n⟩
    |_=>z
   |_=>z:=I
  rw[e];split
  ·rename_i g;split
   ·rename_i pe k lb t n hg;simp only[Ad] at hg;have hE:∀args w,(callFunc g args).run P w=.ok (.enter g args) w:=Qh hg.2;split
    ·rename_i cs0 t0 hk hb0;simp only[Ad] at hk;have hEk:Enters P k:=Qh hk.2;have hte:=Bq hk.1;subst hte;rcases hs (.fn k lb) noF H (upC P z t ih pe n l fn F K) with h|⟨e1,Fx,H2,h,hfn⟩
     ·exact .inl h
     ·rw[h];unfold upC;split
      ·split
       ·rename_i x t2 hb;split
        ·rename_i ht2;have:=Bq ht2;subst this;rcases Tr.put_spec z (.c [.int .i64 n] t2 0) H2.h pe (λh=>ih (.defers l) F ⟨h,H2.n⟩ (Z9 P z fn F K)) with h3|⟨h',h3,hh⟩
         ·exact .inl h3
         ·rw[h3];rcases HA hs fn F l ⟨h',H2.n⟩ K with h4|⟨rv,H',h4,hl⟩
          ·exact .inl h4
          ·refine .inr ⟨.val rv,H',h4,.inl ⟨rv,I⟩,λal G0 tm ds w R ht hds hS hR=>?_⟩;have cell:∀ {al1 G1 H1 w1 cs},HS al1 G1 H1 w1->H1.h.get pe=some (.c cs t2 0)->w1.heap[(G1 pe).b]? =some (.cells ⟨cs.map (den G1)⟩ t2 (0,0))/\(G1 pe).d=0:=λhS1 hb1=>by
            obtain⟨pr,jk,f1,f2,f3,f4⟩:=(hS1.hr _ .rfl).row hb1;obtain⟨f5,f6,_⟩:=f2 I;have f5:=E0 f5;have f6:=E0 f6;subst f5 f6;exact⟨by simpa using f1,f4⟩
           have hd0:(G0 pe).d=0:=by
            obtain⟨pr,jk,f1,f2,f3,f4⟩:=(hS.hr _ .rfl).row hb0;rw[f4];exact(f2 I).1
           have h0:=hds G0 .rfl;have hx:Ve G0 {target:=.fn (.func g) ⟨[]⟩,args:=⟨[.pointer (some ⟨pe,0,none⟩),.func (.func k) ⟨[]⟩ ⟨lb⟩]⟩}= {target:=.fn (.func g) #[],args:= #[.pointer (some ⟨(G0 pe).b,0,none⟩),.func (.func k) #[] ⟨lb.map (den G0)⟩]}:=by
            simp[Ve,RQ,dF,den,O5,dA,hd0]
           rw[Bj,hx] at h0;rw[h0];refine⟨tqS,.inr ⟨λhd=>by simp[Fence.wide] at hd,_,_,g,#[.pointer (some ⟨(G0 pe).b,0,none⟩),.func (.func k) #[] ⟨lb.map (den G0)⟩],I,by simp[invoke,hE],λ_ _=>trivial,?_⟩⟩;have hcalls:Calls P k ⟨lb.map (den G0)⟩ w λe w'=>e=.returned (.tuple #[])/\∃al' G',To al G0 H w al' G' H2 w'/\HS al' G' H2 w':=by
            refine(Fz (n:=8)).1 ?_;refine hfn none 8 al G0 _ w _ (λG hG=>?_) hS (λal' G' w' t1 hS1 u hu=>⟨?_,al',G',t1,hS1⟩) (.inl ⟨_,I⟩)
            ·have h1:=hds G hG;rw[hds G0 .rfl,Bj,Bj] at h1;have h1:=(Ql h1).1;simp only[Ve,Deferred.mk.injEq] at h1;have h1:=h1.2;simp only[den,O5,Bj,E4,Array.mk.injEq,Q7,Value.func.injEq] at h1;simp_all
            ·rw[hu G' .rfl];exact Fb Ending.returned (Rn G' [])
           have hpe:al pe:=hS.pr pe _ hb0;refine Xx ((hcau g hg.1).2 7 (G0 pe).b k _ n [] w _ tqO hEk hcalls ?_) ?_
           ·rintro w' ⟨al',G',t1,hS1⟩;obtain⟨f1,_⟩:=cell hS1 hb;rw[(t1.up pe hpe).2] at f1;exact⟨_,f1⟩
           ·rintro e u' w' ⟨rfl,rfl,w1,⟨al',G',t1,hS1⟩,rfl⟩;obtain⟨f1,f2⟩:=cell hS1 hb;have f3:=(t1.up pe hpe).2;have f4:w1.setCell ⟨(G0 pe).b,0,none⟩ (.int .i64 n)=w1.setRow (G' pe).b #[.int .i64 n]:=by
             rw[<-f3];exact HU f1
            rw[f4];have hlt:(G' pe).b<w1.heap.size:=(B5.1 f1).1;obtain⟨k1,k2⟩:=HS.write (w':=w1.setRow (G' pe).b #[.int .i64 n]) hS1 hb I hh (λG hG _=>by
             have g1:G pe=G' pe:=hG pe (t1.up pe hpe).1;refine⟨[],[],?_,⟨λ_=>⟨I,I,?_⟩,λh=>absurd I h,?_⟩⟩
             ·rw[g1];have:=Qy w1 _ _ #[.int .i64 n] _ _ f1;simpa using this
             ·have:=(hS1.hr G hG).row hb;obtain⟨pr,jk,q1,q2,q3,q4⟩:=this;exact(q2 I).2.2
             ·rw[g1];exact f2) (λj hj=>Pr w1 _ _ _ hj) (Nf _ _ _) I I I
            have t3:=t1.trans k2;show LeavesInM Fence.wide 8 P fn tm R (l.map (Ve G0)) .returning _
            refine hl 8 al' G' tm _ _ R (λG hG=>ht G (hG.mono t3.up)) (λG hG=>?_) k1 λal2 G2 w2 t2 hS2=>hR al2 G2 w2 (t3.trans t2) hS2;have h1:=hds G (hG.mono t3.up);rw[hds G0 .rfl,Bj,Bj] at h1;exact(Ql h1).2
        ·exact .inl I
       ·exact .inl I
      ·exact .inl I
    ·exact .inl I
   ·exact .inl I
  ·rename_i b;split
   ·rename_i hb;rcases Tr.put_spec z .d H.h b (λh=>upK P z cau te ih fn F v K l ⟨h,H.n⟩) with h|⟨h1,h,hh⟩
    ·exact .inl h
    rw[h];rcases VK hs hcau fn F v K l ⟨h1,H.n⟩ with h|⟨e,H',h,he,hd⟩
    ·exact .inl h
    ·refine .inr ⟨e,H',h,he,λal G0 tm ds w R ht hds hS hR=>?_⟩;have h0:=hds G0 .rfl;rw[h0];have hbw:w.heap[(G0 b).b]? =some (.deferred (some [])):=(hS.hr G0 .rfl).bk b _ hb I;obtain⟨k1,k2⟩:=HS.write (w':=w.putObj (G0 b).b (.deferred none)) hS hb I hh (λ_ _ h=>nomatch h) (λj hj=>Gb hj) tqS I I I;refine⟨tqS,.inl ⟨(G0 b).b,_,I,run_takeDeferred hbw,?_⟩⟩;refine hd al G0 tm _ _ R ht (λG hG=>?_) k1 λal' G' w' t1 t2=>hR al' G' w' (k2.trans t1) t2;have h1:=hds G hG;rw[h0,Bj] at h1;exact(Ql h1).2
   ·exact .inl I
  ·exact .inl I
def Aiu (P:Program) (f:FuncId) (c0:List Value) (t:TypeId) (c1:List Value):Prop:=Vr c0=true/\Vr c1=true/\∀(b:Nat) (w:World),w.heap[b]? =some (.cells c0.toArray t (0,0))->Calls P f #[.pointer (some ⟨b,0,none⟩)] w λe w'=>
 e=.returned (.tuple #[])/\w'.os=w.os/\w'.tape=w.tape/\w'.output=w.output/\w.heap.size<=w'.heap.size/\w'.heap[b]? =some (.cells c1.toArray t (0,0))/\∀j,j<w.heap.size->j≠b->w'.heap[j]? =w.heap[j]?
theorem ZX {f:FuncId} {c0 c1:List Value} {t:TypeId} (hf:Aiu P f c0 t c1) (args:List Value) (H:CH) (K:E5 β):KD z c0 t c1 args H K=z\/∃e F' H',KD z c0 t c1 args H K=K e F' H'/\FnS P f args H e H':=by
 unfold KD;split
 ·rename_i k;split
  ·rename_i cs t' hb;split
   ·rename_i hc;simp only[Ad,Es] at hc;obtain⟨h1,rfl⟩:=hc;have:=Pz _ _ h1;subst this;rcases Tr.put_spec z (.c c1 t' 0) H.h k (λh=>K (.val (.tuple ⟨[]⟩)) noF ⟨h,H.n⟩) with h|⟨h',h,hh⟩
    ·exact .inl h
    ·refine .inr ⟨_,_,_,h,λr nn al G0 vs w R hvs hS hR _=>?_⟩;obtain⟨p0,p1,hcall⟩:=hf;have d0:∀G,cs.map (den G)=cs:=λG=>by rw[<-O5];exact J4 G cs p0
     have d1:∀G,c1.map (den G)=c1:=λG=>by rw[<-O5];exact J4 G c1 p1
     obtain⟨pr,jk,f1,f2,_,f4⟩:=(hS.hr _ .rfl).row hb;obtain⟨f5,f6,f7⟩:=f2 I;have f5:=E0 f5;have f6:=E0 f6;subst f5 f6;rw[d0] at f1;have hk:=hS.pr k _ hb;have e0:vs= #[.pointer (some ⟨(G0 k).b,0,none⟩)]:=by
      rw[hvs G0 .rfl];simp only[Bj,E4,den,dA,f4];rfl
     rw[e0];show CallsIn Fence.wide nn P f _ w R
     refine Fz.2 ((hcall (G0 k).b w (by simpa using f1)).mono ?_);rintro e w' ⟨rfl,g1,g2,g3,g4,g5,g6⟩;obtain⟨k1,k2⟩:=HS.write2 (w':=w') hS hb I hh (λG hG _=>by
      have e1:G k=G0 k:=hG k hk;refine⟨[],[],by rw[e1,d1];simpa using g5,⟨λ_=>⟨I,I,?_⟩,λh=>absurd I h,by rw[e1];exact f4⟩⟩;rw[e1];exact f7) g6 g4 g1 g2 g3
     exact hR al G0 w' k2 k1 _ λG _=>(Rn G []).symm
   ·exact .inl I
  ·exact .inl I
 ·exact .inl I
theorem XN:∀a b:List MapEntry,ZU a b=true->a=b
 | [],[],_=>rfl
 |a::xs,b::ys,h=>by
  simp only[ZU,Ad,Es] at h;obtain⟨⟨h1,h2⟩,h3,h4⟩:=h;rw[XN xs ys h4];obtain⟨k,v,n⟩:=a;obtain⟨k',v',n'⟩:=b;have e1:=Y9 _ _ h1;have e2:=Y9 _ _ h2;dsimp only at e1 e2 h3;rw[e1,e2,h3]
theorem Ajo (a b:Bk) (h:ZT a b=true):a=b:=by
 unfold ZT at h;split at h
 ·simp only[Ad,Es] at h;rw[Pz _ _ h.1,h.2.1,h.2.2]
 ·simp only[Ad,Es] at h;rw[XN _ _ h.1,h.2]
 ·rfl
 ·cases h
theorem YD:∀(l:List (Nat×Bk)) (k:Nat) (b:Bk),(mkT l).get k=some b->(k,b)∈l
 | [],k,b,h=>by
  have h:(Tr.lf:Tr Bk).get k=some b:=h;simp at h
 |p::l,k,b,h=>by
  have e:mkT (p::l)=Ag0 p.1 p.2 (mkT l):=I;rw[e] at h;unfold Ag0 at h;rcases Tr.put_spec (.lf:Tr Bk) p.2 (mkT l) p.1 (λt=>t) with h1|⟨t',h1,h2⟩
  ·rw[h1] at h;simp at h
  ·rw[h1,h2] at h;split at h
   ·rename_i e1;cases h;rw[e1];exact F7
   ·exact B3 _ (YD l k b h)
theorem GW {h:Tr Bk}:∀(l:List (Nat×Bk)),BG h l=true->∀k b,(k,b)∈l->h.get k=some b
 | [],_,k,b,hm=>nomatch hm
 |p::l,hh,k,b,hm=>by
  have e:BG h (p::l)=match h.get p.1 with
   |some b=>match ZT b p.2 with
    |true=>BG h l
    |false=>false
   |none=>false:=rfl
  rw[e] at hh;split at hh
  ·rename_i b' hb;split at hh
   ·rename_i he;rcases Ap.1 hm with hm|hm
    ·subst hm;rw[hb,Ajo _ _ he]
    ·exact GW l hh k b hm
   ·cases hh
  ·cases hh
theorem Alk {h:Tr Bk} {l:List (Nat×Bk)} (hh:BG h l=true):∀k b,(mkT l).get k=some b->h.get k=some b:=λk b hk=>GW l hh k b (YD l k b hk)
theorem HS.less {al:Nat->Prop} {G0:Gh} {H H':CH} {w:World} (h:HS al G0 H w) (hg:∀k b,H'.h.get k=some b->H.h.get k=some b) (hn:H'.n=H.n):HS al G0 H' w:=
 ⟨λk hk=>by rw[hn];exact h.lt k hk,λk b hb=>h.pr k b (hg k b hb),λG hG=>⟨λk b hb=>(h.hr G hG).bk k b (hg k b hb),λk k' b b' h1 h2=>(h.hr G hG).inj k k' b b' (hg k b h1) (hg k' b' h2)⟩⟩
theorem To.more {al al':Nat->Prop} {G0 G':Gh} {H H1 H' H2:CH} {w w':World} (h:To al G0 H1 w al' G' H' w') (hg:∀k b,H1.h.get k=some b->H.h.get k=some b) (hn:H1.n=H.n) (hg':∀k b,H2.h.get k=some b->H'.h.get k=some b) (hn':H2.n=H'.n):To al G0 H w al' G' H2 w':=
 ⟨by rw[<-hn,hn'];exact h.n,h.up,λk hk=>h.back k (by rw[hn];exact hk),h.os,h.tape,h.output,h.size,λb hb hi=>h.keep b hb λ⟨k,x,hk,r⟩=>hi ⟨k,x,hg k x hk,r⟩,λb hb ⟨k,x,hk,r⟩=>by
  obtain⟨k',x',hk',r'⟩:=h.own b hb ⟨k,x,hg' k x hk,r⟩;exact⟨k',x',hg k' x' hk',r'⟩⟩
def PcS (P:Program) (f:FuncId) (p:Pc):Prop:=FnS P f p.a ⟨mkT p.l,p.n⟩ (.val p.v) ⟨mkT p.l',p.n'⟩
structure KnS (P:Program) (kn:Kn):Prop where
 fl:∀f p,kn.fl f=some p->Aiu P f p.1 p.2.1 p.2.2
 oc:∀f p,p∈kn.oc f->PcS P f p
theorem kn0S:KnS P kn0:=⟨λ_ _ h=>(nomatch h),λ_ _ h=>(nomatch h)⟩
theorem FnS.less {f:FuncId} {args:List Value} {H H1 H' H2:CH} {e:Ex} (h:FnS P f args H1 e H') (hg:∀k b,H1.h.get k=some b->H.h.get k=some b) (hn:H1.n=H.n) (hg':∀k b,H2.h.get k=some b->H'.h.get k=some b) (hn':H2.n=H'.n):FnS P f args H e H2:=
 λr nn al G0 vs w R hvs hS hR he=>h r nn al G0 vs w R hvs (hS.less hg hn) (λal' G' w' t1 hS1=>hR al' G' w' (t1.more hg hn hg' hn') (hS1.less hg' hn')) he
theorem HI (f:FuncId) (args:List Value) (H:CH) (K:E5 β):∀ps:List Pc,(∀p∈ps,PcS P f p)->EM z args H K ps=z\/∃e F' H',EM z args H K ps=K e F' H'/\FnS P f args H e H'
 | [],_=>.inl I
 |p::ps,hps=>by
  have e:EM z args H K (p::ps)=match Ro args p.a&&(Nat.beq H.n p.n&&BG H.h p.l) with
   |true=>K (.val p.v) noF ⟨mkT p.l',p.n'⟩
   |false=>EM z args H K ps:=rfl
  rw[e];split
  ·rename_i hc;simp only[Ad,Es] at hc;obtain⟨h1,h2,h3⟩:=hc;have:=Pz _ _ h1;subst this;have hp:FnS P f p.a ⟨mkT p.l,p.n⟩ (.val p.v) ⟨mkT p.l',p.n'⟩:=hps p F7;exact .inr ⟨_,_,_,I,hp.less (Alk h3) h2.symm (λ_ _ h=>h) I⟩
  ·exact HI f args H K ps λq hq=>hps q (B3 _ hq)
theorem Adb (hs:Lf P z ih) (hcau:∀g,cau g=true->Jh P g/\Ld P g te te) (f:FuncId) (args:List Value) (H:CH) (K:E5 β):fnB P z cau te ih f args H K=z\/∃e F' H',fnB P z cau te ih f args H K=K e F' H'/\FnS P f args H e H':=by
 unfold fnB;split
 ·rename_i fn hf;split
  ·rename_i c hb;split
   ·exact .inl I
   ·rename_i hle;have hle:=Cy hle;rcases KH (z:=z) args 0 .lf (λT=>ih (.code c) ⟨T,fn.ntmps,[],none⟩ H (FR P z cau te ih fn K)) with h|⟨T,h,hT⟩
    ·exact .inl h
    ·rcases hs (.code c) ⟨T,fn.ntmps,[],none⟩ H (FR P z cau te ih fn K) with h2|⟨e,F1,H1,h2,hq,hcode⟩
     ·exact .inl (h.trans h2)
     ·have hfr:∀(al:Nat->Prop) (G0:Gh) (vs:Array Value),(∀G,Ag al G0 G->vs=⟨args.map (den G)⟩)->FS al G0 ⟨T,fn.ntmps,[],none⟩ {tmps:=vs++Array.replicate (fn.ntmps- vs.size) undef,defers:=[]}:=λal G0 vs hvs G hG=>by
       have hv:=hvs G hG;have hsz:vs.size=args.length:=by rw[hv];simp
       refine⟨⟨by simp[hsz];omega,λt=>?_⟩,I⟩;have hTt:=hT t;simp only[Ax,true_and,Bl,Nat.sub_zero,Tr.get_lf] at hTt;rw[hTt];rw[Bp,Array.getElem?_append];by_cases ht:t<args.length
       ·rw[Bi (by rw[hsz];exact ht),Bi ht,hv];simp[ht]
       ·rw[Ar (by rw[hsz];exact ht),Ar ht];simp only[Option.getD_none,Z4];rw[Array.getElem?_replicate];split<;>rfl
      have fin:FR P z cau te ih fn K e F1 H1=ih (.defers F1.D) F1 H1 (Z9 P z fn F1 K)->(∀G,exD G e=.normal\/exD G e=.ret)->(Z7 z args 0 .lf λT=>ih (.code c) ⟨T,fn.ntmps,[],none⟩ H (FR P z cau te ih fn K))=z\/
        ∃e F' H',(Z7 z args 0 .lf λT=>ih (.code c) ⟨T,fn.ntmps,[],none⟩ H (FR P z cau te ih fn K))=K e F' H'/\FnS P f args H e H':=λhe hex=>by
       rcases HA hs fn F1 F1.D H1 K with h3|⟨rv,H2,h3,hl⟩
       ·exact .inl (((h.trans h2).trans he).trans h3)
       ·refine .inr ⟨_,_,_,((h.trans h2).trans he).trans h3,λr nn al G0 as' w R hvs hS hR _=>?_⟩;show CallsIn Fence.wide nn P f as' w R
        refine N7 hf hb trivial ?_ I;show c.wpIn (feR none) nn P _ _ w
        refine hcode none nn al G0 _ w _ I (hfr al G0 as' hvs) hS λal1 G1 a1 w1 t1 hS1 hf1=>?_;have leave:LeavesInM Fence.wide nn P fn a1.tmps R a1.defers .returning w1:=hl nn al1 G1 a1.tmps a1.defers w1 R (λG hG=>(hf1 G hG).1) (λG hG=>(hf1 G hG).2) hS1 λal2 G2 w2 t2 hS2=>hR al2 G2 w2 (t1.trans t2) hS2;rcases hex G1 with hx|hx
        ·rw[hx];exact leave
        ·rw[hx];exact leave
      cases e with
      |normal=>exact fin I λ_=>.inl I
      |ret=>exact fin I λ_=>.inr I
      |panic v=>
       rcases VK hs hcau fn F1 v K F1.D H1 with h3|⟨e,H2,h3,he,hu⟩
       ·exact .inl ((h.trans h2).trans h3)
       ·refine .inr ⟨e,noF,H2,(h.trans h2).trans h3,λr nn al G0 as' w R hvs hS hR _=>?_⟩;show CallsIn Fence.wide nn P f as' w R
        refine Fz.2 ((Fz (n:=8)).1 ?_);refine N7 hf hb trivial ?_ I;show c.wpIn (feR none) 8 P _ _ w
        refine hcode none 8 al G0 _ w _ I (hfr al G0 as' hvs) hS λal1 G1 a1 w1 t1 hS1 hf1=>?_;show LeavesInM Fence.wide 8 P fn a1.tmps R a1.defers (.panicking [{v:=den G1 v,recovered:=false}]) w1
        refine hu al1 G1 a1.tmps a1.defers w1 R (λG hG=>(hf1 G hG).1) (λG hG=>(hf1 G hG).2) hS1 λal2 G2 w2 t2 hS2=>?_;have hR2:=hR al2 G2 w2 (t1.trans t2) hS2;rcases he with ⟨rv,rfl⟩|⟨pv,rfl⟩
        ·exact hR2
        ·exact hR2
      |_=>exact .inl (h.trans h2)
  ·exact .inl I
 ·exact .inl I
theorem Agu (hs:Lf P z ih) (hkn:KnS P kn) (hcau:∀g,cau g=true->Jh P g/\Ld P g te te) (f:FuncId) (args:List Value) (H:CH) (K:E5 β):fnK P z cau te kn ih f args H K=z\/∃e F' H',fnK P z cau te kn ih f args H K=K e F' H'/\FnS P f args H e H':=by
 unfold fnK;split
 ·rename_i p hp;exact ZX (hkn.fl f p hp) args H K
 ·split
  ·exact Adb hs hcau f args H K
  ·rename_i p ps hp;exact HI f args H K _ λq hq=>hkn.oc f q (by rw[hp];exact hq)
theorem Abw (hs:Lf P z ih) (hkn:KnS P kn) (hcau:∀g,cau g=true->Jh P g/\Ld P g te te)
  (hdraw:∀(ops:Array Oper) (F:Fr) (H:CH) (K:E5 β),Z5 P z ih ops F H K=z\/∃e F' H',Z5 P z ih ops F H K=K e F' H'/\YW P ops F H e F' H'):Lf P z (step P z cau te kn ih):=by
 have hround:Ack P z ih:=λo all l c f b cap F H K nx hnx h1 h2 h3 h4=>WU hs h1 h2 h3 h4 all l H K hnx;intro t F H K;cases t with
 |fn f args=>
  rcases Agu hs hkn hcau f args H K with h|⟨e,F',H',h,h2⟩
  ·exact .inl h
  ·exact .inr ⟨e,F',H',h,h2⟩
 |code c=>exact Si hs (λops=>PD hs hround ops ops.toList) hdraw (λf ps x y F H K=>WQ hs f ps x y F H K) c F H K
 |lp b=>exact Aas hs b F H K
 |sc b c=>exact Ah3 hs b c F H K
 |defers l=>
  rcases RO hs hcau l F H K with h|⟨e,F',H',h,h2⟩
  ·exact .inl h
  ·exact .inr ⟨e,F',H',h,h2⟩
end
abbrev Hf:=Nat->Option Bk
structure HSf (al:Nat->Prop) (G0:Gh) (g:Hf) (n:Nat) (w:World):Prop where
 lt:∀k,al k->k<n
 pr:∀k b,g k=some b->al k
 bk:∀G,Ag al G0 G->∀k b,g k=some b->Lb b=true->BR G k w b
 inj:∀G,Ag al G0 G->∀k k' b b',g k=some b->g k'=some b'->Lb b=true->Lb b'=true->(G k).b=(G k').b->k=k'
def Imf (g:Hf) (G:Gh) (b:Nat):Prop:=∃k x,g k=some x/\Lb x=true/\(G k).b=b
structure TF (al:Nat->Prop) (G:Gh) (g:Hf) (n:Nat) (w:World) (al':Nat->Prop) (G':Gh) (g':Hf) (n':Nat) (w':World):Prop where
 le:n<=n'
 up:∀k,al k->al' k/\G' k=G k
 back:∀k,k<n->al' k->al k
 os:w'.os=w.os
 tape:w'.tape=w.tape
 output:w'.output=w.output
 size:w.heap.size<=w'.heap.size
 keep:∀b,b<w.heap.size->¬Imf g G b->w'.heap[b]? =w.heap[b]?
 own:∀b,b<w.heap.size->Imf g' G' b->Imf g G b
section
variable {al al':Nat->Prop} {G0 G1:Gh} {H H':CH} {g g':Hf} {n n':Nat} {w w':World}
theorem HS.f (h:HS al G0 H w):HSf al G0 H.h.get H.n w:=⟨h.lt,h.pr,λG hG=>(h.hr G hG).bk,λG hG=>(h.hr G hG).inj⟩
theorem HSf.s (h:HSf al G0 g n w) (hg:∀k,H.h.get k=g k) (hn:H.n=n):HS al G0 H w:=
 ⟨λk hk=>hn ▸ h.lt k hk,λk b hb=>h.pr k b ((hg k).symm.trans hb),λG hG=>⟨λk b hb=>h.bk G hG k b ((hg k).symm.trans hb),λk k' b b' h1 h2=>h.inj G hG k k' b b' ((hg k).symm.trans h1) ((hg k').symm.trans h2)⟩⟩
theorem To.f (h:To al G0 H w al' G1 H' w'):TF al G0 H.h.get H.n w al' G1 H'.h.get H'.n w':=⟨h.n,h.up,h.back,h.os,h.tape,h.output,h.size,h.keep,h.own⟩
theorem TF.t (h:TF al G0 g n w al' G1 g' n' w') (hg:∀k,H.h.get k=g k) (hn:H.n=n) (hg':∀k,H'.h.get k=g' k) (hn':H'.n=n'):To al G0 H w al' G1 H' w':=by
 have e:H.h.get=g:=funext hg;have e':H'.h.get=g':=funext hg';subst e e' hn hn';exact⟨h.le,h.up,h.back,h.os,h.tape,h.output,h.size,h.keep,h.own⟩
theorem HSf.sub (h:HSf al G0 g n w) (hg:∀k b,g' k=some b->g k=some b) (hn:∀k,al k->k<n'):HSf al G0 g' n' w:=
 ⟨hn,λk b hb=>h.pr k b (hg k b hb),λG hG k b hb=>h.bk G hG k b (hg k b hb),λG hG k k' b b' h1 h2=>h.inj G hG k k' b b' (hg k b h1) (hg k' b' h2)⟩
theorem HSf.keep (h:HSf al G0 g n w) (hG1:∀k,al k->G1 k=G0 k) (hw:∀b,b<w.heap.size->w'.heap[b]? =w.heap[b]?):HSf al G1 g n w':=by
 have hA:∀G,Ag al G1 G->Ag al G0 G:=λG hG k hk=>(hG k hk).trans (hG1 k hk);exact⟨h.lt,h.pr,λG hG k b hb hl=>(h.bk G (hA G hG) k b hb hl).keep (hw _ ((h.bk G (hA G hG) k b hb hl).lt hl)),λG hG=>h.inj G (hA G hG)⟩
end
section
variable {alI al:Nat->Prop} {Gi G0 G1:Gh} {gI g g':Hf} {nI n:Nat} {wI w w':World}
theorem TF.kept (h:TF alI Gi gI nI wI al G0 g n w) (hs:HSf al G0 g n w) (hG1:∀k,al k->G1 k=G0 k) (hw:∀b,b<w.heap.size->w'.heap[b]? =w.heap[b]?) (hsz:w.heap.size<=w'.heap.size) (h1:w'.os=w.os) (h2:w'.tape=w.tape) (h3:w'.output=w.output):TF alI Gi gI nI wI al G1 g n w' where
 le:=h.le
 up k hk:=⟨(h.up k hk).1,(hG1 k (h.up k hk).1).trans (h.up k hk).2⟩
 back:=h.back
 os:=h1.trans h.os
 tape:=h2.trans h.tape
 output:=h3.trans h.output
 size:=Bf h.size hsz
 keep b hb hi:=(hw b (Aw hb h.size)).trans (h.keep b hb hi)
 own b hb hi:=by
  obtain⟨k,x,hk,hx,e⟩:=hi;exact h.own b hb ⟨k,x,hk,hx,by rw[<-hG1 k (hs.pr k x hk)];exact e⟩
theorem HSf.alloc {k0:Nat} {g1:GI} {b:Bk} (hs:HSf al G0 g n w) (hk:¬al k0) (hn:k0<n) (hg:∀k,g' k=if k=k0 then some b else g k) (hG1:∀k,G1 k=if k=k0 then g1 else G0 k)
  (hw:Lb b=true->∀G,Ag al G0 G->G k0=g1->BR G k0 w' b) (hold:∀j,j<w.heap.size->w'.heap[j]? =w.heap[j]?) (hnew:Lb b=true->w.heap.size<=g1.b):HSf (λk=>al k\/k=k0) G1 g' n w':=by
 have hne:∀k,al k->k≠k0:=λk h e=>hk (e ▸ h);have hA:∀G,Ag (λk=>al k\/k=k0) G1 G->Ag al G0 G:=λG hG k h=>by
  rw[hG k (.inl h),hG1,Ar (hne k h)]
 have hk0:∀G,Ag (λk=>al k\/k=k0) G1 G->G k0=g1:=λG hG=>by
  rw[hG k0 (.inr I),hG1,Bi I]
 have old:∀G,Ag al G0 G->∀j c,g j=some c->Lb c=true->(G j).b<w.heap.size:=λG hG j c hj hc=>(hs.bk G hG j c hj hc).lt hc;refine⟨λk h=>?_,λj c hj=>?_,λG hG j c hj hc=>?_,λG hG i j c c' hi hj hc hc' e=>?_⟩
 ·rcases h with h|rfl
  ·exact hs.lt k h
  ·exact hn
 ·rw[hg] at hj;split at hj
  ·exact .inr (by assumption)
  ·exact .inl (hs.pr j c hj)
 ·rw[hg] at hj;split at hj
  ·rename_i e;subst e;cases hj;exact hw hc G (hA G hG) (hk0 G hG)
  ·exact(hs.bk G (hA G hG) j c hj hc).keep (hold _ (old G (hA G hG) j c hj hc))
 ·rw[hg] at hi hj;split at hi<;>split at hj
  ·rename_i e1 e2;rw[e1,e2]
  ·rename_i e1 e2;subst e1;cases hi;have:=old G (hA G hG) j c' hj hc';have:=hnew hc;rw[hk0 G hG] at e;omega
  ·rename_i e1 e2;subst e2;cases hj;have:=old G (hA G hG) i c hi hc;have:=hnew hc';rw[hk0 G hG] at e;omega
  ·exact hs.inj G (hA G hG) i j c c' hi hj hc hc' e
theorem TF.alloc {k0:Nat} {g1:GI} {b:Bk} (ht:TF alI Gi gI nI wI al G0 g n w) (hs:HSf al G0 g n w) (hk:¬al k0) (hk0:nI<=k0) (hg:∀k,g' k=if k=k0 then some b else g k) (hG1:∀k,G1 k=if k=k0 then g1 else G0 k)
  (hold:∀j,j<w.heap.size->w'.heap[j]? =w.heap[j]?) (hnew:Lb b=true->w.heap.size<=g1.b) (hsz:w.heap.size<=w'.heap.size) (h1:w'.os=w.os) (h2:w'.tape=w.tape) (h3:w'.output=w.output):TF alI Gi gI nI wI (λk=>al k\/k=k0) G1 g' n w':=by
 have hne:∀k,al k->k≠k0:=λk h e=>hk (e ▸ h);have k1:=ht.kept (G1:=G1) hs (λk hk=>by rw[hG1,Ar (hne k hk)]) hold hsz h1 h2 h3;refine⟨k1.le,λk h=>⟨.inl (k1.up k h).1,(k1.up k h).2⟩,λk h h'=>?_,k1.os,k1.tape,k1.output,k1.size,k1.keep,λj hj hi=>?_⟩
 ·rcases h' with h'|rfl
  ·exact k1.back k h h'
  ·omega
 ·obtain⟨k,x,hk',hx,e⟩:=hi;rw[hg] at hk';split at hk'
  ·rename_i e0;subst e0;cases hk';rw[hG1,Bi I] at e;have:=ht.size;have:=hnew hx;omega
  ·exact k1.own j hj ⟨k,x,hk',hx,e⟩
end
theorem HSf.frame {alI al0 al1 alA alB:Nat->Prop} {Gi G0 G1 GB:Gh} {gI g0 gA g1 gB:Hf} {nI n n1:Nat} {wI w w':World}
  (hA:HSf alA G0 gA n w) (htA:TF alI Gi gI nI wI alA G0 gA n w) (h1:HSf al1 G1 g1 n1 w') (ht:TF al0 G0 g0 n w al1 G1 g1 n1 w')
  (hal:∀k,al0 k->alA k) (hg0:∀k b,g0 k=some b->al0 k) (hg:∀k,al0 k->gA k=g0 k)
  (hB:∀k,alB k↔al1 k\/alA k) (hGB1:∀k,al1 k->GB k=G1 k) (hGB2:∀k,¬al1 k->GB k=G0 k) (hgB1:∀k,al1 k->gB k=g1 k) (hgB2:∀k,¬al1 k->gB k=gA k):
  HSf alB GB gB n1 w'/\TF alI Gi gI nI wI alB GB gB n1 w'/\∀k,alA k->alB k/\GB k=G0 k:=by
 have up:∀k,al0 k->al1 k:=λk h=>(ht.up k h).1;have bck:∀k,alA k->al1 k->al0 k:=λk h h'=>ht.back k (hA.lt k h) h';have eA:∀k,alA k->GB k=G0 k:=λk h=>by
  by_cases h':al1 k
  ·rw[hGB1 k h',(ht.up k (bck k h h')).2]
  ·exact hGB2 k h'
 have a1:∀G,Ag alB GB G->Ag al1 G1 G:=λG hG k h=>(hG k ((hB k).2 (.inl h))).trans (hGB1 k h);have aA:∀G,Ag alB GB G->Ag alA G0 G:=λG hG k h=>(hG k ((hB k).2 (.inr h))).trans (eA k h);have imA:∀b,Imf g0 G0 b->Imf gA G0 b:=λb ⟨k,x,hk,hx,e⟩=>⟨k,x,(hg k (hg0 k x hk)).trans hk,hx,e⟩;have side:∀G,Ag alA G0 G->∀k b,¬al1 k->gA k=some b->Lb b=true->¬Imf g0 G0 (G k).b:=λG hG k b hk hb hl ⟨k',x,hk',hx,e⟩=>by
  have hal':=hg0 k' x hk';have e':(G k').b=(G k).b:=by rw[hG k' (hal k' hal')];exact e
  have:=hA.inj G hG k' k x b ((hg k' hal').trans hk') hb hx hl e';subst this;exact hk (up k' hal')
 have lts:∀G,Ag alA G0 G->∀k b,gA k=some b->Lb b=true->(G k).b<w.heap.size:=λG hG k b hb hl=>(hA.bk G hG k b hb hl).lt hl;refine⟨⟨λk hk=>?_,λk b hb=>?_,λG hG k b hb hl=>?_,λG hG k k' b b' hb hb' hl hl' e=>?_⟩,⟨Bf htA.le ht.le,λk hk=>?_,λk hk hk'=>?_,ht.os.trans htA.os,ht.tape.trans htA.tape,ht.output.trans htA.output,Bf htA.size ht.size,λb hb hi=>?_,λb hb hi=>?_⟩,λk hk=>⟨(hB k).2 (.inr hk),eA k hk⟩⟩
 ·rcases(hB k).1 hk with h|h
  ·exact h1.lt k h
  ·exact Aw (hA.lt k h) ht.le
 ·by_cases h:al1 k
  ·exact(hB k).2 (.inl h)
  ·rw[hgB2 k h] at hb;exact(hB k).2 (.inr (hA.pr k b hb))
 ·by_cases h:al1 k
  ·rw[hgB1 k h] at hb;exact h1.bk G (a1 G hG) k b hb hl
  ·rw[hgB2 k h] at hb;exact(hA.bk G (aA G hG) k b hb hl).keep (ht.keep _ (lts G (aA G hG) k b hb hl) (side G (aA G hG) k b h hb hl))
 ·have mix:∀k k' b b',al1 k->¬al1 k'->gB k=some b->gB k'=some b'->Lb b=true->Lb b'=true->(G k).b=(G k').b->False:=λk k' b b' h h' hb hb' hl hl' e=>by
   rw[hgB1 k h] at hb;rw[hgB2 k' h'] at hb';have hlt:=lts G (aA G hG) k' b' hb' hl';refine side G (aA G hG) k' b' h' hb' hl' (ht.own _ hlt ⟨k,b,hb,hl,?_⟩);rw[<-a1 G hG k h];exact e
  by_cases h:al1 k
  ·by_cases h':al1 k'
   ·rw[hgB1 k h] at hb;rw[hgB1 k' h'] at hb';exact h1.inj G (a1 G hG) k k' b b' hb hb' hl hl' e
   ·exact(mix k k' b b' h h' hb hb' hl hl' e).elim
  ·by_cases h':al1 k'
   ·exact(mix k' k b' b h' h hb' hb hl' hl e.symm).elim
   ·rw[hgB2 k h] at hb;rw[hgB2 k' h'] at hb';exact hA.inj G (aA G hG) k k' b b' hb hb' hl hl' e
 ·have:=(htA.up k hk).1;exact⟨(hB k).2 (.inr this),(eA k this).trans (htA.up k hk).2⟩
 ·rcases(hB k).1 hk' with h|h
  ·exact htA.back k hk (hal k (ht.back k (Aw hk htA.le) h))
  ·exact htA.back k hk h
 ·exact(ht.keep b (Aw hb htA.size) λhc=>hi (htA.own b hb (imA b hc))).trans (htA.keep b hb hi)
 ·obtain⟨k,x,hk,hx,e⟩:=hi;by_cases h:al1 k
  ·rw[hgB1 k h] at hk;rw[hGB1 k h] at e;exact htA.own b hb (imA b (ht.own b (Aw hb htA.size) ⟨k,x,hk,hx,e⟩))
  ·rw[hgB2 k h] at hk;rw[hGB2 k h] at e;exact htA.own b hb ⟨k,x,hk,hx,e⟩
end Go.Proofs.YtjofafbkkpdgbaaGreat.Ck
