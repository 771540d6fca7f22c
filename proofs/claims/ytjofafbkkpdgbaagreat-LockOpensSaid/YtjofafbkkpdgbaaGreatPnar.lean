/- A part of the proof of LockOpens: rules and contracts. No condition. -/
import Derived.Test.YtjofafbkkpdgbaaGreatPnaq
set_option maxRecDepth 100000
set_option maxHeartbeats 4000000
set_option linter.all false
namespace Go.Proofs.YtjofafbkkpdgbaaGreat
open Go.Proofs.Tryz
open Go.RowKit Go.Shelf
section
attribute [local irreducible] OJs CJs RLs Xy Af1 Lv LvR DJ YY Yd Wk
theorem Aml (use mode prio due v f vn:Int):Cm prog 102 [.agg (Bm ⟨use,0,mode,prio,due,⟨v,f,vn⟩⟩).toArray] [] [] (Bd (.bool (Hr ⟨use,0,mode,prio,due,⟨v,f,vn⟩⟩))):=by
 have hS:=Pa (x:=⟨use,0,mode,prio,due,⟨v,f,vn⟩⟩);have hL:Bm ⟨use,0,mode,prio,due,⟨v,f,vn⟩⟩=[.int .i64 use,.int .i64 0,.int .i64 mode,.int .i64 prio,.int .i64 due,.int .i64 v,.int .i64 f,.int .u64 vn]:=I;rw[hL];dsimp only at hS;have hT:=P2 due;have hT0:due=0->Iy due=true:=by rintro rfl;rfl
 have hC:=O9 ⟨v,f,vn⟩;have hW:=St mode prio;obtain⟨r0,hr0⟩:∃r0,Il [4,4,8] [.int .i64 v,.int .i64 f,.int .u64 vn] [.int .i64 0,.int .i64 0,.int .u64 0]=some r0:=⟨_,I⟩;have hr1:r0=true↔v=0/\f=0/\vn=0:=by
  have:some r0=some (v == 0&&(f == 0&&(vn == 0&&true))):=hr0.symm.trans I;cases this;simp
 generalize Hr ⟨use,0,mode,prio,due,⟨v,f,vn⟩⟩=S at hS⊢;generalize Iy due=t0 at hT hS hT0;generalize Ho ⟨v,f,vn⟩=c0 at hC hS;generalize Vz mode prio=q0 at hW hS;refine tqm [.g [.v (.int .i64 use),.v (.int .i64 0),.v (.int .i64 mode),.v (.int .i64 prio),.v (.int .i64 due),.v (.int .i64 v),.v (.int .i64 f),.v (.int .u64 vn)]] func102 ntmps102 λ_ _=>?_;refine Ai (λh1=>?_) λh1=>?_
 ·obtain rfl:S=false:=Bo.2 λh=>by have:=hS.1 h;omega
  exact tqE
 refine Ai (λh2=>?_) λh2=>?_
 ·obtain rfl:S=false:=Bo.2 λh=>by have:=hS.1 h;omega
  exact tqE
 refine B8 (U0 tqK I I I I) ?_;generalize hq:(((0:Int) == 0) != (use == 0))=q;have hq1:q=true↔use≠0:=by rw[<-hq];simp
 clear hq;cases q;rotate_left
 ·obtain rfl:S=false:=Bo.2 λh=>by have:=hS.1 h;simp at hq1;omega
  exact tqE
 conv=>whnf
 refine A7 (λh6=>?_) λh6=>?_
 ·obtain rfl:S=false:=Bo.2 λh=>by have:=hS.1 h;simp at h6;omega
  exact tqE
 refine B8 (Ny (xs:=[.int .i64 v,.int .i64 f,.int .u64 vn]) (ys:=[.int .i64 0,.int .i64 0,.int .u64 0]) (r:=_) (ks:=[4,4,8]) Sj Yh I I I (λ_=>I) (λ_=>I) hr0) ?_;cases r0
 ·obtain rfl:S=false:=Bo.2 λh=>by have:=hS.1 h;simp at hr1;omega
  exact tqE
 conv=>whnf
 refine A7 (λh7=>?_) λh7=>?_
 ·obtain rfl:S=(prio == 0):=by rw[Be,hS];simp at*;omega
  exact tqE
 ·obtain rfl:S=false:=Bo.2 λh=>by have:=hS.1 h;simp at h7;omega
  exact tqE
theorem Amm (use mode prio due v f vn:Int):Cm prog 102 [.agg (Bm ⟨use,1,mode,prio,due,⟨v,f,vn⟩⟩).toArray] [] [] (Bd (.bool (Hr ⟨use,1,mode,prio,due,⟨v,f,vn⟩⟩))):=by
 have hS:=Pa (x:=⟨use,1,mode,prio,due,⟨v,f,vn⟩⟩);have hL:Bm ⟨use,1,mode,prio,due,⟨v,f,vn⟩⟩=[.int .i64 use,.int .i64 1,.int .i64 mode,.int .i64 prio,.int .i64 due,.int .i64 v,.int .i64 f,.int .u64 vn]:=I;rw[hL];dsimp only at hS;have hT:=P2 due;have hT0:due=0->Iy due=true:=by rintro rfl;rfl
 have hC:=O9 ⟨v,f,vn⟩;have hW:=St mode prio;obtain⟨r0,hr0⟩:∃r0,Il [4,4,8] [.int .i64 v,.int .i64 f,.int .u64 vn] [.int .i64 0,.int .i64 0,.int .u64 0]=some r0:=⟨_,I⟩;have hr1:r0=true↔v=0/\f=0/\vn=0:=by
  have:some r0=some (v == 0&&(f == 0&&(vn == 0&&true))):=hr0.symm.trans I;cases this;simp
 generalize Hr ⟨use,1,mode,prio,due,⟨v,f,vn⟩⟩=S at hS⊢;generalize Iy due=t0 at hT hS hT0;generalize Ho ⟨v,f,vn⟩=c0 at hC hS;generalize Vz mode prio=q0 at hW hS;refine tqm [.g [.v (.int .i64 use),.v (.int .i64 1),.v (.int .i64 mode),.v (.int .i64 prio),.v (.int .i64 due),.v (.int .i64 v),.v (.int .i64 f),.v (.int .u64 vn)]] func102 ntmps102 λ_ _=>?_;refine Ai (λh1=>?_) λh1=>?_
 ·obtain rfl:S=false:=Bo.2 λh=>by have:=hS.1 h;omega
  exact tqE
 refine Ai (λh2=>?_) λh2=>?_
 ·obtain rfl:S=false:=Bo.2 λh=>by have:=hS.1 h;omega
  exact tqE
 refine B8 (U0 tqK I I I I) ?_;generalize hq:(((1:Int) == 0) != (use == 0))=q;have hq1:q=true↔use=0:=by rw[<-hq];simp
 clear hq;cases q;rotate_left
 ·obtain rfl:S=false:=Bo.2 λh=>by have:=hS.1 h;simp at hq1;omega
  exact tqE
 refine tqc I5 (λ_=>hT) ?_;cases t0
 ·obtain rfl:S=false:=Bo.2 λh=>by have:=hS.1 h;grind
  exact tqE
 refine B8 (Ny (xs:=[.int .i64 v,.int .i64 f,.int .u64 vn]) (ys:=[.int .i64 0,.int .i64 0,.int .u64 0]) (r:=_) (ks:=[4,4,8]) Sj Yh I I I (λ_=>I) (λ_=>I) hr0) ?_;cases r0
 ·obtain rfl:S=false:=Bo.2 λh=>by have:=hS.1 h;simp at hr1;omega
  exact tqE
 refine tqc I5 (λ_=>hW) ?_;obtain rfl:S=q0:=by rw[Be,hS];grind
 exact tqE
theorem Amn (use mode prio due v f vn:Int):Cm prog 102 [.agg (Bm ⟨use,2,mode,prio,due,⟨v,f,vn⟩⟩).toArray] [] [] (Bd (.bool (Hr ⟨use,2,mode,prio,due,⟨v,f,vn⟩⟩))):=by
 have hS:=Pa (x:=⟨use,2,mode,prio,due,⟨v,f,vn⟩⟩);have hL:Bm ⟨use,2,mode,prio,due,⟨v,f,vn⟩⟩=[.int .i64 use,.int .i64 2,.int .i64 mode,.int .i64 prio,.int .i64 due,.int .i64 v,.int .i64 f,.int .u64 vn]:=I;rw[hL];dsimp only at hS;have hT:=P2 due;have hT0:due=0->Iy due=true:=by rintro rfl;rfl
 have hC:=O9 ⟨v,f,vn⟩;have hW:=St mode prio;obtain⟨r0,hr0⟩:∃r0,Il [4,4,8] [.int .i64 v,.int .i64 f,.int .u64 vn] [.int .i64 0,.int .i64 0,.int .u64 0]=some r0:=⟨_,I⟩;have hr1:r0=true↔v=0/\f=0/\vn=0:=by
  have:some r0=some (v == 0&&(f == 0&&(vn == 0&&true))):=hr0.symm.trans I;cases this;simp
 generalize Hr ⟨use,2,mode,prio,due,⟨v,f,vn⟩⟩=S at hS⊢;generalize Iy due=t0 at hT hS hT0;generalize Ho ⟨v,f,vn⟩=c0 at hC hS;generalize Vz mode prio=q0 at hW hS;refine tqm [.g [.v (.int .i64 use),.v (.int .i64 2),.v (.int .i64 mode),.v (.int .i64 prio),.v (.int .i64 due),.v (.int .i64 v),.v (.int .i64 f),.v (.int .u64 vn)]] func102 ntmps102 λ_ _=>?_;refine Ai (λh1=>?_) λh1=>?_
 ·obtain rfl:S=false:=Bo.2 λh=>by have:=hS.1 h;omega
  exact tqE
 refine Ai (λh2=>?_) λh2=>?_
 ·obtain rfl:S=false:=Bo.2 λh=>by have:=hS.1 h;omega
  exact tqE
 refine B8 (U0 tqK I I I I) ?_;generalize hq:(((2:Int) == 0) != (use == 0))=q;have hq1:q=true↔use=0:=by rw[<-hq];simp
 clear hq;cases q;rotate_left
 ·obtain rfl:S=false:=Bo.2 λh=>by have:=hS.1 h;simp at hq1;omega
  exact tqE
 conv=>whnf
 refine A7 (λh6=>?_) λh6=>?_
 ·obtain rfl:S=false:=Bo.2 λh=>by have:=hS.1 h;simp at h6;omega
  exact tqE
 refine tqc I5 (λ_=>hC) ?_;cases c0
 ·obtain rfl:S=false:=Bo.2 λh=>by have:=hS.1 h;grind
  exact tqE
 refine tqc I5 (λ_=>hW) ?_;obtain rfl:S=q0:=by rw[Be,hS];grind
 exact tqE
theorem Amo (use mode prio due v f vn:Int):Cm prog 102 [.agg (Bm ⟨use,3,mode,prio,due,⟨v,f,vn⟩⟩).toArray] [] [] (Bd (.bool (Hr ⟨use,3,mode,prio,due,⟨v,f,vn⟩⟩))):=by
 have hS:=Pa (x:=⟨use,3,mode,prio,due,⟨v,f,vn⟩⟩);have hL:Bm ⟨use,3,mode,prio,due,⟨v,f,vn⟩⟩=[.int .i64 use,.int .i64 3,.int .i64 mode,.int .i64 prio,.int .i64 due,.int .i64 v,.int .i64 f,.int .u64 vn]:=I;rw[hL];dsimp only at hS;have hT:=P2 due;have hT0:due=0->Iy due=true:=by rintro rfl;rfl
 have hC:=O9 ⟨v,f,vn⟩;have hW:=St mode prio;obtain⟨r0,hr0⟩:∃r0,Il [4,4,8] [.int .i64 v,.int .i64 f,.int .u64 vn] [.int .i64 0,.int .i64 0,.int .u64 0]=some r0:=⟨_,I⟩;have hr1:r0=true↔v=0/\f=0/\vn=0:=by
  have:some r0=some (v == 0&&(f == 0&&(vn == 0&&true))):=hr0.symm.trans I;cases this;simp
 generalize Hr ⟨use,3,mode,prio,due,⟨v,f,vn⟩⟩=S at hS⊢;generalize Iy due=t0 at hT hS hT0;generalize Ho ⟨v,f,vn⟩=c0 at hC hS;generalize Vz mode prio=q0 at hW hS;refine tqm [.g [.v (.int .i64 use),.v (.int .i64 3),.v (.int .i64 mode),.v (.int .i64 prio),.v (.int .i64 due),.v (.int .i64 v),.v (.int .i64 f),.v (.int .u64 vn)]] func102 ntmps102 λ_ _=>?_;refine Ai (λh1=>?_) λh1=>?_
 ·obtain rfl:S=false:=Bo.2 λh=>by have:=hS.1 h;omega
  exact tqE
 refine Ai (λh2=>?_) λh2=>?_
 ·obtain rfl:S=false:=Bo.2 λh=>by have:=hS.1 h;omega
  exact tqE
 refine B8 (U0 tqK I I I I) ?_;generalize hq:(((3:Int) == 0) != (use == 0))=q;have hq1:q=true↔use=0:=by rw[<-hq];simp
 clear hq;cases q;rotate_left
 ·obtain rfl:S=false:=Bo.2 λh=>by have:=hS.1 h;simp at hq1;omega
  exact tqE
 conv=>whnf
 refine A7 (λh6=>?_) λh6=>?_
 ·obtain rfl:S=false:=Bo.2 λh=>by have:=hS.1 h;simp at h6;omega
  exact tqE
 refine B8 (Ny (xs:=[.int .i64 v,.int .i64 f,.int .u64 vn]) (ys:=[.int .i64 0,.int .i64 0,.int .u64 0]) (r:=_) (ks:=[4,4,8]) Sj Yh I I I (λ_=>I) (λ_=>I) hr0) ?_;cases r0
 ·obtain rfl:S=false:=Bo.2 λh=>by have:=hS.1 h;simp at hr1;omega
  exact tqE
 conv=>whnf
 refine A7 (λh7=>?_) λh7=>?_
 ·obtain rfl:S=(prio == 0):=by rw[Be,hS];simp at*;omega
  exact tqE
 ·obtain rfl:S=false:=Bo.2 λh=>by have:=hS.1 h;simp at h7;omega
  exact tqE
theorem Amp (use mode prio due v f vn:Int):Cm prog 102 [.agg (Bm ⟨use,4,mode,prio,due,⟨v,f,vn⟩⟩).toArray] [] [] (Bd (.bool (Hr ⟨use,4,mode,prio,due,⟨v,f,vn⟩⟩))):=by
 have hS:=Pa (x:=⟨use,4,mode,prio,due,⟨v,f,vn⟩⟩);have hL:Bm ⟨use,4,mode,prio,due,⟨v,f,vn⟩⟩=[.int .i64 use,.int .i64 4,.int .i64 mode,.int .i64 prio,.int .i64 due,.int .i64 v,.int .i64 f,.int .u64 vn]:=I;rw[hL];dsimp only at hS;have hT:=P2 due;have hT0:due=0->Iy due=true:=by rintro rfl;rfl
 have hC:=O9 ⟨v,f,vn⟩;have hW:=St mode prio;obtain⟨r0,hr0⟩:∃r0,Il [4,4,8] [.int .i64 v,.int .i64 f,.int .u64 vn] [.int .i64 0,.int .i64 0,.int .u64 0]=some r0:=⟨_,I⟩;have hr1:r0=true↔v=0/\f=0/\vn=0:=by
  have:some r0=some (v == 0&&(f == 0&&(vn == 0&&true))):=hr0.symm.trans I;cases this;simp
 generalize Hr ⟨use,4,mode,prio,due,⟨v,f,vn⟩⟩=S at hS⊢;generalize Iy due=t0 at hT hS hT0;generalize Ho ⟨v,f,vn⟩=c0 at hC hS;generalize Vz mode prio=q0 at hW hS;refine tqm [.g [.v (.int .i64 use),.v (.int .i64 4),.v (.int .i64 mode),.v (.int .i64 prio),.v (.int .i64 due),.v (.int .i64 v),.v (.int .i64 f),.v (.int .u64 vn)]] func102 ntmps102 λ_ _=>?_;refine Ai (λh1=>?_) λh1=>?_
 ·obtain rfl:S=false:=Bo.2 λh=>by have:=hS.1 h;omega
  exact tqE
 refine Ai (λh2=>?_) λh2=>?_
 ·obtain rfl:S=false:=Bo.2 λh=>by have:=hS.1 h;omega
  exact tqE
 refine B8 (U0 tqK I I I I) ?_;generalize hq:(((4:Int) == 0) != (use == 0))=q;have hq1:q=true↔use=0:=by rw[<-hq];simp
 clear hq;cases q;rotate_left
 ·obtain rfl:S=false:=Bo.2 λh=>by have:=hS.1 h;simp at hq1;omega
  exact tqE
 conv=>whnf
 refine A7 (λh6=>?_) λh6=>?_
 ·obtain rfl:S=false:=Bo.2 λh=>by have:=hS.1 h;simp at h6;omega
  exact tqE
 refine B8 (Ny (xs:=[.int .i64 v,.int .i64 f,.int .u64 vn]) (ys:=[.int .i64 0,.int .i64 0,.int .u64 0]) (r:=_) (ks:=[4,4,8]) Sj Yh I I I (λ_=>I) (λ_=>I) hr0) ?_;cases r0
 ·obtain rfl:S=false:=Bo.2 λh=>by have:=hS.1 h;simp at hr1;omega
  exact tqE
 conv=>whnf
 refine A7 (λh7=>?_) λh7=>?_
 ·obtain rfl:S=(prio == 0):=by rw[Be,hS];simp at*;omega
  exact tqE
 ·obtain rfl:S=false:=Bo.2 λh=>by have:=hS.1 h;simp at h7;omega
  exact tqE
theorem Amq (use mode prio due v f vn:Int):Cm prog 102 [.agg (Bm ⟨use,5,mode,prio,due,⟨v,f,vn⟩⟩).toArray] [] [] (Bd (.bool (Hr ⟨use,5,mode,prio,due,⟨v,f,vn⟩⟩))):=by
 have hS:=Pa (x:=⟨use,5,mode,prio,due,⟨v,f,vn⟩⟩);have hL:Bm ⟨use,5,mode,prio,due,⟨v,f,vn⟩⟩=[.int .i64 use,.int .i64 5,.int .i64 mode,.int .i64 prio,.int .i64 due,.int .i64 v,.int .i64 f,.int .u64 vn]:=I;rw[hL];dsimp only at hS;have hT:=P2 due;have hT0:due=0->Iy due=true:=by rintro rfl;rfl
 have hC:=O9 ⟨v,f,vn⟩;have hW:=St mode prio;obtain⟨r0,hr0⟩:∃r0,Il [4,4,8] [.int .i64 v,.int .i64 f,.int .u64 vn] [.int .i64 0,.int .i64 0,.int .u64 0]=some r0:=⟨_,I⟩;have hr1:r0=true↔v=0/\f=0/\vn=0:=by
  have:some r0=some (v == 0&&(f == 0&&(vn == 0&&true))):=hr0.symm.trans I;cases this;simp
 generalize Hr ⟨use,5,mode,prio,due,⟨v,f,vn⟩⟩=S at hS⊢;generalize Iy due=t0 at hT hS hT0;generalize Ho ⟨v,f,vn⟩=c0 at hC hS;generalize Vz mode prio=q0 at hW hS;refine tqm [.g [.v (.int .i64 use),.v (.int .i64 5),.v (.int .i64 mode),.v (.int .i64 prio),.v (.int .i64 due),.v (.int .i64 v),.v (.int .i64 f),.v (.int .u64 vn)]] func102 ntmps102 λ_ _=>?_;refine Ai (λh1=>?_) λh1=>?_
 ·obtain rfl:S=false:=Bo.2 λh=>by have:=hS.1 h;omega
  exact tqE
 refine Ai (λh2=>?_) λh2=>?_
 ·obtain rfl:S=false:=Bo.2 λh=>by have:=hS.1 h;omega
  exact tqE
 refine B8 (U0 tqK I I I I) ?_;generalize hq:(((5:Int) == 0) != (use == 0))=q;have hq1:q=true↔use=0:=by rw[<-hq];simp
 clear hq;cases q;rotate_left
 ·obtain rfl:S=false:=Bo.2 λh=>by have:=hS.1 h;simp at hq1;omega
  exact tqE
 conv=>whnf
 refine A7 (λh6=>?_) λh6=>?_
 ·obtain rfl:S=false:=Bo.2 λh=>by have:=hS.1 h;simp at h6;omega
  exact tqE
 refine B8 (Ny (xs:=[.int .i64 v,.int .i64 f,.int .u64 vn]) (ys:=[.int .i64 0,.int .i64 0,.int .u64 0]) (r:=_) (ks:=[4,4,8]) Sj Yh I I I (λ_=>I) (λ_=>I) hr0) ?_;cases r0
 ·obtain rfl:S=false:=Bo.2 λh=>by have:=hS.1 h;simp at hr1;omega
  exact tqE
 conv=>whnf
 refine A7 (λh7=>?_) λh7=>?_
 ·obtain rfl:S=(prio == 0):=by rw[Be,hS];simp at*;omega
  exact tqE
 ·obtain rfl:S=false:=Bo.2 λh=>by have:=hS.1 h;simp at h7;omega
  exact tqE
theorem Aha (use state mode prio due v f vn:Int) (h:state<0\/5<state):Cm prog 102 [.agg (Bm ⟨use,state,mode,prio,due,⟨v,f,vn⟩⟩).toArray] [] [] (Bd (.bool (Hr ⟨use,state,mode,prio,due,⟨v,f,vn⟩⟩))):=by
 have hS:Hr ⟨use,state,mode,prio,due,⟨v,f,vn⟩⟩=false:=Bo.2 λh=>by have:=Pa.1 h;dsimp only at this;omega
 rw[hS];have hL:Bm ⟨use,state,mode,prio,due,⟨v,f,vn⟩⟩=[.int .i64 use,.int .i64 state,.int .i64 mode,.int .i64 prio,.int .i64 due,.int .i64 v,.int .i64 f,.int .u64 vn]:=I;rw[hL];refine tqm [.g [.v (.int .i64 use),.v (.int .i64 state),.v (.int .i64 mode),.v (.int .i64 prio),.v (.int .i64 due),.v (.int .i64 v),.v (.int .i64 f),.v (.int .u64 vn)]] func102 ntmps102 λ_ _=>?_;refine Ai (λh1=>?_) λh1=>?_
 ·exact tqE
 refine Ai (λh2=>?_) λh2=>?_
 ·exact tqE
 refine Ai (λh3=>?_) λh3=>?_
 ·exact tqE
 refine Ai (λh4=>?_) λh4=>?_
 ·exact tqE
 omega
theorem UP (x:Slt):Cm prog 102 [.agg (Bm x).toArray] [] [] (Bd (.bool (Hr x))):=by
 obtain⟨use,state,mode,prio,due,⟨v,f,vn⟩⟩:=x;by_cases h:state<0\/5<state
 ·exact Aha use state mode prio due v f vn h
 have hz:state=0\/state=1\/state=2\/state=3\/state=4\/state=5:=by omega
 rcases hz with rfl|rfl|rfl|rfl|rfl|rfl
 ·exact Aml use mode prio due v f vn
 ·exact Amm use mode prio due v f vn
 ·exact Amn use mode prio due v f vn
 ·exact Amo use mode prio due v f vn
 ·exact Amp use mode prio due v f vn
 ·exact Amq use mode prio due v f vn
end
theorem LF (n l s:Int) (a:Option Addr) (cap:Nat) (xs:List Slt) (hx:xs.length<=1000000):Cm prog 48 [.agg #[.int .i64 n,.int .i64 l,.int .i64 s],.slice a xs.length cap] [] [slF Bm 8 (.slice a xs.length cap) xs] (Bd (.bool (Jl n l s xs))):=by
 refine tqm [.g [.v (.int .i64 n),.v (.int .i64 l),.v (.int .i64 s)],.o (.v (.slice a xs.length cap))] func48 ntmps48 λ_ _=>?_;refine tqc I5 (λ_=>Ss n l s) ?_;unfold Jl;cases hs:Ef n l s
 ·exact tqE
 refine A7 (λh1=>?_) λh1=>?_
 ·have e:decide ((xs.length:Int)=s)=false:=by simp at h1;simpa using h1
  rw[e];exact tqE
 have e:decide ((xs.length:Int)=s)=true:=by simp at h1;simpa using h1
 rw[e];refine Br (γ:=Nat) (λk=>k<=xs.length/\∀(j:Nat) x,j<k->xs[j]? =some x->Hr x=true) (λk=>[(5,.o (.v (.int .i64 k)))]) (λ_=>[]) (λ_=>[]) (λk=>xs.length- k) 0 ⟨Ax _,λj x hj=>by omega⟩ Ac ?_;rintro k ⟨hk,hyes⟩;refine Ai (λh1=>?_) λh1=>?_
 ·obtain⟨x,hx⟩:=A9 (xs:=xs) (k:=k);refine Dk (slF Bm 8 (.slice a xs.length cap) xs) (B1 hx) ?_;rintro ⟨b,off,rfl⟩;refine Au Bb ?_;refine Au (Cu (vs:=Bm x) (slF Bm 8 (.slice (some ⟨b,off,none⟩) xs.length cap) xs) (Du hx)) ?_;refine tqc I5 (λ_=>UP x) ?_;cases hpx:Hr x
  ·have hall:xs.all Hr=false:=Ms hx hpx
   (rw[hall];exact Al [] I2 λ_=>⟨I,I⟩)
  ·refine Af (z:=(k+1:Nat)) ?_;refine⟨k+1,⟨tqO,λj y hj hy=>?_⟩,tqP,Ac⟩;rcases Bg.1 hj with h|rfl
   ·exact hyes j y h hy
   ·rw[hx] at hy;cases hy;exact hpx
 ·have hall:xs.all Hr=true:=Rf tqO hyes
  (rw[hall];exact Al [] I2 λ_=>⟨I,I⟩)
theorem QE {pl:Plc} {x:Lck}:Pe pl x=(J9 pl&&X4 pl.n pl.l pl.s x.own&&Hn pl.n pl.l pl.s x.known&&Jl pl.n pl.l pl.s x.slots&&Tq pl.s x.tries&&Vy (pl.me*pl.s).toNat x.known x.slots&&AS pl.n pl.l pl.s x):=by
 unfold Pe Ru;cases J9 pl<;>cases X4 pl.n pl.l pl.s x.own<;>cases Hn pl.n pl.l pl.s x.known<;>cases Jl pl.n pl.l pl.s x.slots<;>simp
theorem EO (pl:Plc) (x:Lck) (p:LckS) (hx:x.small):Cm prog 14 [.agg (O8 pl).toArray,.agg (Jd x p).toArray] [] (C7 x p) (Bd (.bool (Pe pl x))):=by
 obtain⟨hx0,hx4,hx5,hx6⟩:=id hx;have hB:=QE (pl:=pl) (x:=x);have hkf:=GZ (pl:=pl) (x:=x);have hZ:AS pl.n pl.l pl.s x=bif !x.has&&decide (x.last=0) then decide (x.tok=Fd) else decide (0<x.last)&&decide (x.tok.age=x.last)&&Fq pl.n pl.l pl.s x.tok:=I
 generalize Pe pl x=B at hB;generalize AS pl.n pl.l pl.s x=Z at hB hZ;obtain⟨t0,a4,c4,a5,c5,a6,c6⟩:=p;unfold C7;dsimp only;refine tqm [.g [.v (.int .i64 pl.n),.v (.int .i64 pl.l),.v (.int .i64 pl.s),.v (.int .i64 pl.me),.v (.int .i64 pl.lock),.v (.int .i64 pl.limit),.v (.int .i64 pl.retry),.v (.int .i64 pl.far),.v (.int .i64 pl.now),.v (.bool pl.still)],.g [.v (.bool x.tree),.v (.bool x.has),.v (.int .i64 x.tok.age),.v (.slice t0.a1 x.tok.seq.length t0.c1),.v (.slice t0.a2 x.tok.q.length t0.c2),.v (.slice t0.a3 x.tok.hs.length t0.c3),.v (.int .i64 x.tok.c.value),.v (.int .i64 x.tok.c.floor),.v (.int .u64 x.tok.c.version),.v (.int .i64 x.last),.v (.int .i64 x.own.node),.v (.int .i64 x.own.hop),.v (.slice a4 x.known.length c4),.v (.slice a5 x.slots.length c5),.v (.slice a6 x.tries.length c6)]] func14 ntmps14 λ_ _=>?_;refine tqc I5 (λ_=>LD pl) ?_;cases hb0:J9 pl
 ·rw[hB,hb0];exact tqE
 refine tqc I5 (λ_=>Ahy pl.n pl.l pl.s x.own) ?_;cases hb1:X4 pl.n pl.l pl.s x.own
 ·rw[hB,hb0,hb1];exact tqE
 refine tqc I5 (λ_=>LB pl.n pl.l pl.s a4 c4 x.known hx4) ?_;cases hb2:Hn pl.n pl.l pl.s x.known
 ·rw[hB,hb0,hb1,hb2];exact tqE
 refine tqc I5 (λ_=>LF pl.n pl.l pl.s a5 c5 x.slots hx5) ?_;cases hb3:Jl pl.n pl.l pl.s x.slots
 ·rw[hB,hb0,hb1,hb2,hb3];exact tqE
 refine tqc I5 (λ_=>Abi pl.n pl.l pl.s a6 c6 x.tries hx6) ?_;rw[show (decide ((x.tries.length:Int)=pl.s)&&x.tries.all Ur)=Tq pl.s x.tries from I];cases hb4:Tq pl.s x.tries
 ·rw[hB,hb0,hb1,hb2,hb3,hb4];exact tqE
 obtain⟨f1,f2,f3,f4,f5,f6,f7⟩:=hkf hb0 (by unfold Ru;rw[hb1,hb2,hb3];rfl);rw[hb0,hb1,hb2,hb3,hb4] at hB;have hBv:B=(Vy (pl.me*pl.s).toNat x.known x.slots&&Z):=by rw[hB];simp
 generalize (pl.me*pl.s).toNat=o at f1 f3 hBv;refine Br (γ:=Nat) (λk=>k<=x.slots.length/\∀j y,j<k->x.slots[j]? =some y->x.known[o+j]? =some (Iz y)) (λk=>[(6,.o (.v (.int .i64 k)))]) (λ_=>[]) (λ_=>[]) (λk=>x.slots.length- k) 0 ⟨Ax _,λj y hj=>by omega⟩ Ac ?_;rintro k ⟨hk,hyes⟩;refine Ai (λh1=>?_) λh1=>?_
 ·
  have hkl:k<x.slots.length:=by omega
  obtain⟨y,hy⟩:=A9 (xs:=x.slots) (k:=k) (h:=hkl);obtain⟨z,hz⟩:=A9 (xs:=x.known) (k:=o+k);have hyI:=f2 y (Av hy);refine Ec (slF Bv 4 (.slice a4 x.known.length c4) x.known) (B1 hz) ?_;rintro ⟨b4,off4,rfl⟩;refine Ec (slF Bm 8 (.slice a5 x.slots.length c5) x.slots) (B1 hy) ?_;rintro ⟨b5,off5,rfl⟩;refine Ao [16] (tqs 0 17<| .op 17 .z) [0,1,2] [] [] [slF Bv 4 (.slice (some ⟨b4,off4,none⟩) x.known.length c4) x.known,slF Bm 8 (.slice (some ⟨b5,off5,none⟩) x.slots.length c5) x.slots] λ_=>?_;refine⟨_,Cb (z:=pl.me*pl.s) (ho:=I) (hx:=I) (hy:=I) (hr:=I) (hz:=by rw[Ey]<;>omega),?_⟩;refine⟨_,Cb (z:=pl.me*pl.s+k) (ho:=I) (hx:=I) (hy:=I) (hr:=I) (hz:=by rw[Ey]<;>omega),?_⟩;refine⟨_,Bb (i:=o+k) (ho:=I) (he:=I) (hx:=I) (hix:=I) (hz:=by rw[Int.natCast_add,f1]),?_⟩;refine⟨_,Cu (vs:=Bv z) (slF Bv 4 (.slice (some ⟨b4,off4,none⟩) x.known.length c4) x.known) (Du hz),?_⟩;refine⟨_,Bb (i:=k) (hi:=hkl),?_⟩;refine⟨_,Cu (vs:=Bm y) (slF Bm 8 (.slice (some ⟨b5,off5,none⟩) x.slots.length c5) x.slots) (Du hy),?_⟩;refine tqc I5 (λ_=>UQ y (by unfold JE at hyI;omega)) ?_;refine tqQ<|⟨_,Ny (xs:=Bv z) (ys:=Bv (Iz y)) (r:=decide (z=Iz y)) (ks:=_) FQ QX I I I (λ_=>I) (λ_=>I) (KI _ _),?_⟩;cases h:decide (z=Iz y)
  ·rw[hBv,PW hy hz (by simpa using h)];exact tqE
  ·refine Af (z:=(k+1:Nat)) ?_;refine⟨k+1,⟨tqO,λj w hj hw=>?_⟩,tqP,Ac⟩;rcases Bg.1 hj with h2|rfl
   ·exact hyes j w h2 hw
   ·rw[hy] at hw;cases hw;rw[hz,Kf h]
 ·have hv:Vy o x.known x.slots=true:=MJ λk y hy=>hyes k y (by have:=(Aa.1 hy).1;omega) hy;have hBZ:B=Z:=by rw[hBv,hv];rfl
  rw[hBZ];clear hB hBv hBZ;cases hh:x.has
  ·rw[hh] at hZ;conv=>whnf
   refine A7 (λh1=>?_) λh1=>?_
   ·have e1:decide (x.last=0)=true:=by simpa using h1
    rw[e1] at hZ;conv=>whnf
    refine tqc I5 (λ_=>Afq (Zp x.tok Fd t0 Dx hx0 Sz)) ?_;rw[show Z=decide (x.tok=Fd) by rw[hZ];rfl];exact tqE
   ·have e1:decide (x.last=0)=false:=by simpa using h1
    rw[e1] at hZ;replace hZ:Z=(decide (0<x.last)&&decide (x.tok.age=x.last)&&Fq pl.n pl.l pl.s x.tok):=hZ;conv=>whnf
    refine tqc I5 (λ_=>Zq pl.n pl.l pl.s x.tok t0 hx0) ?_;cases ht:Fq pl.n pl.l pl.s x.tok
    ·rw[ht] at hZ;rw[hZ];have e:(decide (0<x.last)&&decide (x.tok.age=x.last)&&false)=false:=by simp
     first|rw[e]|(dsimp only[Bool.not_true,Bool.not_false,Bool.true_and,Bool.false_and,cond_true,cond_false];rw[e])
     exact tqE
    rw[ht] at hZ;conv=>whnf
    refine A7 (λh2=>?_) λh2=>?_;rotate_left
    ·have e2:decide (x.tok.age=x.last)=false:=by simp at h2;simpa using h2
     have e:Z=false:=by rw[hZ,e2];simp
     rw[e];exact tqE
    have e2:decide (x.tok.age=x.last)=true:=by simp at h2;simpa using h2
    rw[show Z=decide (0<x.last) by rw[hZ,e2];simp];exact tqE
  ·rw[hh] at hZ;replace hZ:Z=(decide (0<x.last)&&decide (x.tok.age=x.last)&&Fq pl.n pl.l pl.s x.tok):=hZ;conv=>whnf
   refine tqc I5 (λ_=>Zq pl.n pl.l pl.s x.tok t0 hx0) ?_;cases ht:Fq pl.n pl.l pl.s x.tok
   ·rw[ht] at hZ;rw[hZ];have e:(decide (0<x.last)&&decide (x.tok.age=x.last)&&false)=false:=by simp
    first|rw[e]|(dsimp only[Bool.not_true,Bool.not_false,Bool.true_and,Bool.false_and,cond_true,cond_false];rw[e])
    exact tqE
   rw[ht] at hZ;conv=>whnf
   refine A7 (λh2=>?_) λh2=>?_;rotate_left
   ·have e2:decide (x.tok.age=x.last)=false:=by simp at h2;simpa using h2
    have e:Z=false:=by rw[hZ,e2];simp
    rw[e];exact tqE
   have e2:decide (x.tok.age=x.last)=true:=by simp at h2;simpa using h2
   rw[show Z=decide (0<x.last) by rw[hZ,e2];simp];exact tqE
structure Rw where
 v:Value
 e:TypeId
 sz:Nat
 m:Nat
 cells:List Value
def Rw.lc (r:Rw):LC:=.own r.v r.e r.sz r.m r.cells
def FK (r:Rw) (f:Fact):Prop:=∀(A:Nat->Prop) (w:World),w.ownsRow 0 r.e r.sz r.v r.m r.cells->(∀b,r.v.ownBlock=some b->A b)->f.h A w
variable {cells:List Value} {e:TypeId} {α:Type} {enc:α->List Value} {m sz:Nat} {xs:List α}
theorem Ajb {v:Value} (henc:∀x,(enc x).length=sz) (hm:m=xs.length) (hc:cells=xs.flatMap enc):FK ⟨v,e,sz,m,cells⟩ (slF enc sz v xs):=by
 subst hm hc;intro A w hown hA;obtain⟨a,c,e1,e2,h3⟩:=Sl.of_owns henc hown;dsimp only at e1 hA;refine⟨a,c,e1,e2,h3.imp id ?_⟩;rintro ⟨b,off,h4,_,h6⟩;exact⟨b,off,h4,hA b (by rw[e1,h4];rfl),h6⟩
def Wi (enc:α->List Value) (t sz:Nat) (xs:List α) (a:Option Addr) (c:Nat):Rw:=⟨.slice a xs.length c,t,sz,xs.length,xs.flatMap enc⟩
variable {a:Option Addr}
theorem GA {t:Nat} {c:Nat} (henc:∀x,(enc x).length=sz):FK (Wi enc t sz xs a c) (slF enc sz (.slice a xs.length c) xs):=Ajb henc I I
abbrev V5:=Value->List Rw->List Fact->Prop
structure PostV (A:Nat->Prop) (w:World) (Rs:List Rw) (F1:List Fact) (A':Nat->Prop) (w':World):Prop where
 kp:Kp [] w w'
 own:∀(i:Nat) (r:Rw),Rs[i]? =some r->w'.ownsRow 0 r.e r.sz r.v r.m r.cells
 new:∀(i:Nat) (r:Rw) b,Rs[i]? =some r->r.v.ownBlock=some b->w.heap.size<=b
 inj:∀(i j:Nat) (r s:Rw) b,Rs[i]? =some r->Rs[j]? =some s->r.v.ownBlock=some b->s.v.ownBlock=some b->i=j
 a1:∀b,A' b->A b\/w.heap.size<=b
 a2:∀b,A' b->b<w'.heap.size/\∀(i:Nat) (r:Rw),Rs[i]? =some r->r.v.ownBlock≠some b
 fs:∀f∈F1,f.h A' w'
def Alv (w:World) (A:Nat->Prop) (Out:V5) (e:Ending) (w':World):Prop:=∃v Rs F1 A',e=.returned v/\Out v Rs F1/\PostV A w Rs F1 A' w'
def Cv (P:Program) (g:FuncId) (args:List Value) (F0:List Fact) (Out:V5):Prop:=
 ∀(A:Nat->Prop) (w:World),(∀b,A b->b<w.heap.size)->(∀f∈F0,f.h A w)->Calls P g args.toArray w (Alv w A Out)
def IM:Nat->List Rw->LE->LE
 |_,[],L=>L
 |i,r::rest,L=>(i,r.lc)::IM (i+1) rest L
theorem Xl {L:LE}:∀ {Rs:List Rw} {i k:Nat} {e:LC},Ah (IM i Rs L) k=some e->(∃j r,Rs[j]? =some r/\k=i+j/\e=r.lc)\/((k<i\/i+Rs.length<=k)/\Ah L k=some e)
 | [],i,k,e,h=>.inr ⟨by simp;omega,h⟩
 |r::rest,i,k,e,h=>by
  rw[IM,As] at h;split at h
  ·rename_i hk;cases h;exact .inl ⟨0,r,I,tqO,I⟩
  ·rename_i hk;rcases Xl h with ⟨j,s,h1,h2,h3⟩|⟨h1,h2⟩
   ·exact .inl ⟨j+1,s,by simpa using h1,tqO,h3⟩
   ·exact .inr ⟨by simp;omega,h2⟩
section
variable {X:Fx} {o:Oper} {T:TE} {L:LE} {n:Nat} {F:List Fact} {D:DF} {K:KK} {k:KS}
def Z0 (L:LE) (js:List Nat) (F F0:List Fact):Prop:=∀f∈F0,f∈F\/∃j r,j∈js/\Ah L j=some (Rw.lc r)/\FK r f
variable {F0:List Fact}
theorem Z0.nil {F:List Fact} (h:∀f∈F0,f∈F):Z0 L [] F F0:=λf hf=>.inl (h f hf)
variable {js:List Nat}
theorem Z0.cons {α:Type} {enc:α->List Value} {v:Value} {e:TypeId} {sz m:Nat} {cells:List Value} {xs:List α} {j:Nat} {F:List Fact} (hj:Ah L j=some (.own v e sz m cells)) (henc:∀x,(enc x).length=sz) (hm:m=xs.length) (hc:cells=xs.flatMap enc) (h:Z0 L js F F0):Z0 L (j::js) F (slF enc sz v xs::F0):=by
 intro f hf;rcases Ap.1 hf with rfl|hf
 ·exact .inr ⟨j,⟨v,e,sz,m,cells⟩,.head _,hj,Ajb henc hm hc⟩
 ·rcases h f hf with h|⟨j',r,h1,h2,h3⟩
  ·exact .inl h
  ·exact .inr ⟨j',r,.tail _ h1,h2,h3⟩
def Ai0 (X:Fx) (o:Oper) (T:TE) (L:LE) (n:Nat) (F:List Fact) (D:DF) (k:KS) (v:Value) (Rs:List Rw) (F1:List Fact):Prop:=
 match E7 X.k o.dst (.o (.v v)) T with
 |some T'=>k T' (IM n Rs L) (n+Rs.length) (F1++F) D
 |none=>False
def Aap (L:LE) (ρ:Nm) (js:List Nat) (A:Nat->Prop):Nat->Prop:=λb=>A b\/∃j r,j∈js/\Ah L j=some (Rw.lc r)/\r.v.ownBlock=some b
theorem Ag8 {A:Nat->Prop} {ρ:Nm} {a:Act} {w:World} (h0:Rel0 X T L F D A ρ a w):∀b,Aap L ρ js A b->b<w.heap.size:=by
 rintro b (hb|⟨j,r,_,hj,hb⟩)
 ·exact(h0.a2 b hb).1
 ·exact LC.lt (h0.lo j _ hj) hb
theorem Ag7 {A:Nat->Prop} {ρ:Nm} {a:Act} {w:World} (h0:Rel0 X T L F D A ρ a w) (hF0:Z0 L js F F0):∀f∈F0,f.h (Aap L ρ js A) w:=by
 intro f hf;rcases hF0 f hf with hf|⟨j,r,hj,hr,hs⟩
 ·exact f.ok (λ_ h=>.inl h) (λ_ _=>I) (Grow.refl _) (h0.a3 f hf)
 ·exact hs _ w (h0.lo j _ hr) λb hb=>.inr ⟨j,r,hj,hr,hb⟩
theorem Ae7 {a:Act} {w:World} {g:Nat} {args:List Value} {Out:V5} (js:List Nat) (hr:Rel X T L n F D a w) (ct:Cv X.P g args F0 Out) (hF0:Z0 L js F F0) (hno:js=[]\/∀v Rs F1,Out v Rs F1->F1=[]):
  ∃A ρ,Rel0 X T L F D A ρ a w/\Calls X.P g args.toArray w λe w'=>∃v Rs F1,e=.returned v/\Out v Rs F1/\Rel X T (IM n Rs L) (n+Rs.length) (F1++F) D a w':=by
 obtain⟨hkb,ρ1,A,hr1⟩:=hr;have h00:=hr1 ρ1 λ_ _=>I;refine⟨A,ρ1,h00,(ct (Aap L ρ1 js A) w (Ag8 h00) (Ag7 h00 hF0)).mono ?_⟩;rintro e w' ⟨v,Rs,F1,A',rfl,hout,P⟩;refine⟨v,Rs,F1,I,hout,?_⟩;have kp:∀b,b<w.heap.size->w'.heap[b]? =w.heap[b]?:=λb hb=>P.kp.keep b hb tqS;have hkb2:∀k e,Ah (IM n Rs L) k=some e->k<n+Rs.length:=λk e hk=>by
  rcases Xl hk with ⟨j,r,h1,h2,_⟩|⟨_,h2⟩
  ·have:=(Aa.1 h1).1;omega
  ·have:=hkb k e h2;omega
 have old:∀b,F1≠ []->A' b->A b\/w.heap.size<=b:=λb hne hb=>by
  rcases P.a1 b hb with (h|⟨j,r,hj,_⟩)|h
  ·exact .inl h
  ·rcases hno with e|e
   ·subst e;cases hj
   ·exact absurd (e _ _ _ hout) hne
  ·exact .inr h
 refine⟨hkb2,ρ1,λb=>A b\/(F1≠ []/\A' b),λρ hρ=>?_⟩;have h1:=hr1 ρ λj hj=>hρ j tqO;have look:∀k e b,Ah (IM n Rs L) k=some e->e.blk ρ k=some b->(∃(j:Nat) (r:Rw),Rs[j]? =some r/\k=n+j/\r.v.ownBlock=some b/\w.heap.size<=b)\/(Ah L k=some e/\b<w.heap.size):=by
  intro k e b hk hb;rcases Xl hk with ⟨j,r,h2,h3,rfl⟩|⟨_,h2⟩
  ·exact .inl ⟨j,r,h2,h3,hb,P.new j r b h2 hb⟩
  ·exact .inr ⟨h2,LC.lt (h1.lo k e h2) hb⟩
 refine⟨⟨h1.tm,λk e hk=>?_,λf hf=>?_⟩,h1.sz,h1.df,?_,λk e b hk hb=>?_,λk1 k2 e1 e2 b hk1 hk2 hb1 hb2=>?_,λb hb=>?_,λb hb=>⟨?_,λk e hk hbk=>?_⟩,h1.mb⟩
 ·rcases Xl hk with ⟨j,r,h2,_,rfl⟩|⟨_,h2⟩
  ·exact P.own j r h2
  ·exact LC.keep (w:=w) (h1.lo k e h2) λb hb=>kp b (LC.lt (h1.lo k e h2) hb)
 ·rcases B4.1 hf with hf|hf
  ·exact f.ok (λb hb=>.inr ⟨List.ne_nil_of_mem hf,hb⟩) (λ_ _=>I) (Grow.refl _) (P.fs f hf)
  ·exact f.ok (w:=w) (λb hb=>.inl hb) (λb hb=>kp b (h1.a2 b hb).1) P.kp.grow (h1.a3 f hf)
 ·exact⟨P.kp.os.trans h1.kp.os,P.kp.tape.trans h1.kp.tape,P.kp.output.trans h1.kp.output,Bf h1.kp.size P.kp.size,λb hb hm=>(kp b (Aw hb h1.kp.size)).trans (h1.kp.keep b hb hm)⟩
 ·rcases look k e b hk hb with ⟨_,_,_,_,_,h2⟩|⟨h2,_⟩
  ·exact .inr (Bf h1.kp.size h2)
  ·exact h1.nw k e b h2 hb
 ·rcases look k1 e1 b hk1 hb1 with ⟨i,r,h2,rfl,h3,h4⟩|⟨h2,h4⟩<;>rcases look k2 e2 b hk2 hb2 with ⟨j,s,h5,rfl,h6,h7⟩|⟨h5,h7⟩
  ·rw[P.inj i j r s b h2 h5 h3 h6]
  ·omega
  ·omega
  ·exact h1.ds k1 k2 e1 e2 b h2 h5 hb1 hb2
 ·rcases hb with hb|⟨hne,hb⟩
  ·exact h1.a1 b hb
  ·rcases old b hne hb with h|h
   ·exact h1.a1 b h
   ·exact .inr (Bf h1.kp.size h)
 ·rcases hb with hb|⟨_,hb⟩
  ·exact Aw (h1.a2 b hb).1 P.kp.size
  ·exact(P.a2 b hb).1
 ·rcases hb with hb|⟨hne,hb⟩
  ·rcases look k e b hk hbk with ⟨_,_,_,_,_,h2⟩|⟨h2,_⟩
   ·have:=(h1.a2 b hb).1;omega
   ·exact(h1.a2 b hb).2 k e h2 hbk
  ·rcases Xl hk with ⟨j,r,h2,h3,rfl⟩|⟨_,h2⟩
   ·exact(P.a2 b hb).2 j r h2 hbk
   ·rcases old b hne hb with h|h
    ·exact(h1.a2 b h).2 k e h2 hbk
    ·have:=LC.lt (h1.lo k e h2) hbk;omega
theorem P1 {c:Call} {f:Operand} {g:Nat} {fi ca:List PV} {us:List TV} {args:List Value} {Out:V5} (js:List Nat) (ho:o.op=.call c) (hc:c.callee=.value f) (hf:Va T f=some (g,fi,ca)) (hus:Rg T c.args.toList=some us) (hfn:Ah X.tab.fn g=some ()) (hargs:∀ρ,Gn ρ fi us ca=args)
  (ct:Cv X.P g args F0 Out) (hF0:Z0 L js F F0) (hno:js=[]\/∀v Rs F1,Out v Rs F1->F1=[]) (h:∀v Rs F1,Out v Rs F1->Ai0 X o T L n F D k v Rs F1):OJs X o T L n F D k K:=by
 intro Q hQ Φ hΦ a w hr;obtain⟨A,ρ0,h0,hC⟩:=Ae7 js hr ct hF0 hno;refine Oper.wpIn_of_run (by simp[Cw,ho]) ?_;rw[Qa h0.toVw ho hc hf hus hfn,hargs ρ0];refine⟨λhd=>by simp[Fx.fe,Fence.wide] at hd,?_⟩;refine Mk (show CallsIn X.fe (X.nn- 1) X.P g args.toArray w _ from⟨trivial,((Fz (n:=X.nn- 1)).2 hC).2⟩) ?_;rintro e w' ⟨v,Rs,F1,rfl,hout,rel⟩;have hk:=h v Rs F1 hout;simp only[Ai0] at hk;split at hk
 ·rename_i T' hp;exact hΦ _ _ _ _ _ hk _ w' (rel.put (λ_ _ _=>I) hp)
 ·exact hk.elim
def Af2 (X:Fx) (res:List ResultVar) (Out:V5) (T:TE) (L:LE) (n:Nat) (F:List Fact) (D:DF):Prop:=
 ∀a w,Rel X T L n F D a w->a.defers=[]/\∀fn:Func,fn.results.toList=res->∃v,(results fn a.tmps).run X.P w=.ok v w/\Alv X.w0 X.A0 Out (.returned v) w
def Anx (X:Fx) (res:List ResultVar) (Out:V5):KK:=λe T L n F D=>match e with
 | .normal=>Af2 X res Out T L n F D
 | .ret=>Af2 X res Out T L n F D
 |_=>False
def rsV (L:LE):List Nat->List Rw->Prop
 | [],[]=>True
 |k::ks,r::rs=>Ah L k=some r.lc/\rsV L ks rs
 |_,_=>False
theorem BP {L:LE}:∀ {ks:List Nat} {Rs:List Rw} {i:Nat} {r:Rw},rsV L ks Rs->Rs[i]? =some r->∃k,ks[i]? =some k/\Ah L k=some r.lc
 |k::ks,s::rs,0,r,h,hi=>by cases hi;exact⟨k,I,h.1⟩
 |k::ks,s::rs,i+1,r,h,hi=>by
  obtain⟨k',h1,h2⟩:=BP (i:=i) h.2 (by simpa using hi);exact⟨k',by simpa using h1,h2⟩
 | [],[],_,_,_,hi=>by simp at hi
 | [],_::_,_,_,h,_=>h.elim
 |_::_,[],_,_,h,_=>h.elim
theorem Fj {res:List ResultVar} {Out:V5} {us:List TV} (ks:List Nat) (Rs:List Rw) (F1:List Fact) (hres:Vs X.tab T L res=some us) (hrs:rsV L ks Rs) (hout:∀ρ,Out (Uo ρ us) Rs F1) (hD:D=λ_=>[]:=by exact I) (hM:X.M=[]:=by exact I) (hnd:ks.Nodup:=by exact tqD) (hF:∀f∈F1,f∈F:=by exact tqF):Af2 X res Out T L n F D:=by
 intro a w hr;obtain⟨A,ρ,h0⟩:=hr.one;refine⟨by rw[h0.df,hD],λfn hfn=>⟨Uo ρ us,Mj h0.toVw (by rw[hfn];exact hres),Uo ρ us,Rs,F1,A,I,hout ρ,?_⟩⟩;refine⟨by rw[<-hM];exact h0.kp,λi r hi=>?_,λi r b hi hb=>?_,λi j r s b hi hj hb hb'=>?_,h0.a1,λb hb=>⟨(h0.a2 b hb).1,λi r hi hbk=>?_⟩,λf hf=>h0.a3 f (hF f hf)⟩
 ·obtain⟨k,_,h2⟩:=BP hrs hi;exact h0.lo k _ h2
 ·obtain⟨k,_,h2⟩:=BP hrs hi;rcases h0.nw k _ b h2 hb with h|h
  ·rw[hM] at h;cases h
  ·exact h
 ·obtain⟨k,h1,h2⟩:=BP hrs hi;obtain⟨k',h3,h4⟩:=BP hrs hj;have:=h0.ds k k' _ _ b h2 h4 hb hb';subst this;obtain⟨g1,e1⟩:=Aa.1 h1;obtain⟨g2,e2⟩:=Aa.1 h3;exact(P7 hnd).1 (e1.trans e2.symm)
 ·obtain⟨k,_,h2⟩:=BP hrs hi;exact(h0.a2 b hb).2 k _ h2 hbk
end
theorem Ant {P:Program} {tab:Tab} {ok:tab.Ok P} {g:Nat} {fn:Func} {body:Code} {args:List Value} {F0:List Fact} {Out:V5} {k:Nat} (us:List TV) (hf:P.funcs[g]? =some fn) (hk:fn.ntmps=k) (hb:fn.body=some body) (hul:Nat.ble us.length k=true) (hargs:∀ρ:Nm,us.map (TV.den ρ)=args)
  (h:∀w0 A0,sx ⟨P,tab,ok,none,8,k,w0,A0,[],[]⟩ body (U8 0 us) [] 0 F0 (λ_=>[]) (Anx ⟨P,tab,ok,none,8,k,w0,A0,[],[]⟩ fn.results.toList Out)):Cv P g args F0 Out:=by
 intro A w hA hF;refine(Fz (n:=8)).1 (T4 hf hb trivial ?_ I);rw[hk];have hk2:us.length<=k:=by rwa[G6] at hul
 have hbeg:=EQ (X:=⟨P,tab,ok,none,8,k,w,A,[],[]⟩) (mu:=[]) ⟨I,I,I,I,I⟩ hk2 tqS (λx hx=>by cases hx) hA hF (args:=args) λρ _=>hargs ρ;refine Ht (h w A) _ ?_ _ _ hbeg;intro e T L n F D hK a w' hr;cases e with
 |normal=>
  obtain⟨h1,h2⟩:=hK a w' hr;obtain⟨v,h3,h4⟩:=h2 fn I;exact⟨h1,v,h3,h4⟩
 |ret=>
  obtain⟨h1,h2⟩:=hK a w' hr;obtain⟨v,h3,h4⟩:=h2 fn I;exact⟨h1,v,h3,h4⟩
 |panic ch=>exact hK.elim
 |exit id=>exact hK.elim
 |goto l=>exact hK.elim
 |outgrown=>exact hK.elim
theorem Cv.cm {P:Program} {g:FuncId} {args:List Value} {F0:List Fact} {Out:V5} {Out':Gx} (h:Cv P g args F0 Out) (hO:∀v Rs F1,Out v Rs F1->∃fs,Out' (.returned v) [] fs/\∀f∈fs,f∈F1\/∃r∈Rs,FK r f):Cm P g args [] F0 Out':=by
 intro A w _ _ hA hF;refine(h A w hA hF).mono ?_;rintro e w' ⟨v,Rs,F1,A',rfl,hout,H⟩;obtain⟨fs,h1,h2⟩:=hO v Rs F1 hout;refine⟨[],fs,h1,H.kp,I,λi x c hx=>by simp at hx,λb=>A' b\/∃r∈Rs,r.v.ownBlock=some b,λb hb=>?_,λb hb=>?_,λf hf=>?_⟩
 ·rcases hb with hb|⟨r,hr,hb⟩
  ·exact H.a1 b hb
  ·obtain⟨i,hi⟩:=B6.1 hr;exact .inr (H.new i r b hi hb)
 ·rcases hb with hb|⟨r,hr,hb⟩
  ·exact(H.a2 b hb).1
  ·obtain⟨i,hi⟩:=B6.1 hr;exact LC.lt (ρ:=λ_=>0) (k:=0) (e:=r.lc) (H.own i r hi) hb
 ·rcases h2 f hf with hf|⟨r,hr,hs⟩
  ·exact f.ok (λb hb=>.inl hb) (λ_ _=>I) (Grow.refl _) (H.fs f hf)
  ·obtain⟨i,hi⟩:=B6.1 hr;exact hs _ w' (H.own i r hi) λb hb=>.inr ⟨r,hr,hb⟩
def tqv:=@Ant prog tb R8
theorem Mm {xs:List Int}:∀u∈xs.flatMap Bt,u.oneCell'=true:=by
 intro u hu;obtain⟨x,_,hx⟩:=Jt.1 hu;simp only[Bt,Ap,Bw,Ed] at hx;subst hx;rfl
def Ou (x:Tok) (p:Sls):List Rw:=[Wi Bt 2 1 x.seq p.a1 p.c1,Wi wtL 167 5 x.q p.a2 p.c2,Wi hdL 170 3 x.hs p.a3 p.c3]
variable {x:Tok}
theorem Ab8 {p:Sls}:∀f∈Bs x p,∃r∈Ou x p,FK r f:=by
 intro f hf;simp only[Bs,Ap,Bw,Ed] at hf;rcases hf with rfl|rfl|rfl
 ·exact⟨_,.head _,GA λ_=>I⟩
 ·exact⟨_,.tail _ (.head _),GA Ez⟩
 ·exact⟨_,.tail _ (.tail _ (.head _)),GA Dd⟩
theorem HJ (x:Tok) (p:Sls) (hx:x.small):Cv prog 35 [.agg (G5 x p).toArray] (Bs x p) (λv Rs F1=>∃p',v=.agg (G5 x p').toArray/\Rs=Ou x p'/\F1=[]):=by
 obtain⟨hx1,hx2,hx3⟩:=hx;obtain⟨age,seq,q,hs,⟨cv,cf,cn⟩⟩:=x;dsimp only at hx1 hx2 hx3;obtain⟨a1,c1,a2,c2,a3,c3⟩:=p;unfold Bs;dsimp only;refine tqv [.g [.v (.int .i64 age),.v (.slice a1 seq.length c1),.v (.slice a2 q.length c2),.v (.slice a3 hs.length c3),.v (.int .i64 cv),.v (.int .i64 cf),.v (.int .u64 cn)]] func35 ntmps35 I I (λ_=>I) λ_ _=>?_;refine Ao [2,5,6,9,10,13,16,17] (.op 0<|.op 1<| .op 3<|.op 4<| .op 7<|.op 8<| .op 11<|.op 12<| .op 14<|.op 15<| .alt (.op 2<|.alt (.op 5<|.alt (.op 6<|.alt (.op 9<|.op 10<| .op 13<| .op 16<| .op 17 .z) (.op 10<| .op 9<| .op 13<| .op 16<| .op 17 .z)) (.op 10<| .op 6<| .op 9<| .op 13<| .op 16<| .op 17 .z)) (.alt (.op 6<|.alt (.op 5<|.alt (.op 9<|.op 10<| .op 13<| .op 16<| .op 17 .z) (.op 10<| .op 9<| .op 13<| .op 16<| .op 17 .z)) (.op 10<| .op 5<| .op 9<| .op 13<| .op 16<| .op 17 .z)) (.op 10<|.alt (.op 5<|.op 6<| .op 9<| .op 13<| .op 16<| .op 17 .z) (.op 6<| .op 5<| .op 9<| .op 13<| .op 16<| .op 17 .z)))) (.alt (.op 6<|.alt (.op 2<|.alt (.op 5<|.alt (.op 9<|.op 10<| .op 13<| .op 16<| .op 17 .z) (.op 10<| .op 9<| .op 13<| .op 16<| .op 17 .z)) (.op 10<| .op 5<| .op 9<| .op 13<| .op 16<| .op 17 .z)) (.op 10<| .op 2<| .op 5<| .op 9<| .op 13<| .op 16<| .op 17 .z)) (.op 10<|.alt (.op 2<|.alt (.op 5<|.op 6<| .op 9<| .op 13<| .op 16<| .op 17 .z) (.op 6<| .op 5<| .op 9<| .op 13<| .op 16<| .op 17 .z)) (.op 6<| .op 2<| .op 5<| .op 9<| .op 13<| .op 16<| .op 17 .z)))) [0] [] [] [] λ_=>?_;refine⟨?_,?_⟩
 ·refine tqq ?_;refine⟨?_,?_⟩
  ·refine B0 5 2 Bt (λ_=>I) Mm ?_;intro g1 x1 y1;refine tqq ?_;refine⟨?_,?_⟩
   ·refine tqq ?_;refine⟨?_,?_⟩
    ·refine B0 9 3 wtL Ez Ja ?_;intro g2 x2 y2;refine tqq<|tqq<|B0 13 4 hdL Dd Fs ?_;intro g3 x3 y3;exact tqq<|tqq<|tqQ<|Fj [2,3,4] (Ou ⟨age,seq,q,hs,⟨cv,cf,cn⟩⟩ ⟨x1,y1,x2,y2,x3,y3⟩) [] I ⟨I,I,I,trivial⟩ λ_=>⟨⟨x1,y1,x2,y2,x3,y3⟩,I,I,I⟩
    ·refine tqq<|B0 9 3 wtL Ez Ja ?_;intro g2 x2 y2;refine tqq<|B0 13 4 hdL Dd Fs ?_;intro g3 x3 y3;exact tqq<|tqq<|tqQ<|Fj [2,3,4] (Ou ⟨age,seq,q,hs,⟨cv,cf,cn⟩⟩ ⟨x1,y1,x2,y2,x3,y3⟩) [] I ⟨I,I,I,trivial⟩ λ_=>⟨⟨x1,y1,x2,y2,x3,y3⟩,I,I,I⟩
   ·refine tqq<|tqq<|B0 9 4 wtL Ez Ja ?_;intro g2 x2 y2;refine tqq<|B0 13 3 hdL Dd Fs ?_;intro g3 x3 y3;exact tqq<|tqq<|tqQ<|Fj [2,4,3] (Ou ⟨age,seq,q,hs,⟨cv,cf,cn⟩⟩ ⟨x1,y1,x2,y2,x3,y3⟩) [] I ⟨I,I,I,trivial⟩ λ_=>⟨⟨x1,y1,x2,y2,x3,y3⟩,I,I,I⟩
  ·refine⟨?_,?_⟩
   ·refine tqq ?_;refine⟨?_,?_⟩
    ·refine B0 5 2 Bt (λ_=>I) Mm ?_;intro g1 x1 y1;refine tqq ?_;refine⟨?_,?_⟩
     ·refine B0 9 3 wtL Ez Ja ?_;intro g2 x2 y2;refine tqq<|tqq<|B0 13 4 hdL Dd Fs ?_;intro g3 x3 y3;exact tqq<|tqq<|tqQ<|Fj [2,3,4] (Ou ⟨age,seq,q,hs,⟨cv,cf,cn⟩⟩ ⟨x1,y1,x2,y2,x3,y3⟩) [] I ⟨I,I,I,trivial⟩ λ_=>⟨⟨x1,y1,x2,y2,x3,y3⟩,I,I,I⟩
     ·refine tqq<|B0 9 3 wtL Ez Ja ?_;intro g2 x2 y2;refine tqq<|B0 13 4 hdL Dd Fs ?_;intro g3 x3 y3;exact tqq<|tqq<|tqQ<|Fj [2,3,4] (Ou ⟨age,seq,q,hs,⟨cv,cf,cn⟩⟩ ⟨x1,y1,x2,y2,x3,y3⟩) [] I ⟨I,I,I,trivial⟩ λ_=>⟨⟨x1,y1,x2,y2,x3,y3⟩,I,I,I⟩
    ·refine tqq<|B0 5 2 Bt (λ_=>I) Mm ?_;intro g1 x1 y1;refine tqq<|B0 9 3 wtL Ez Ja ?_;intro g2 x2 y2;refine tqq<|B0 13 4 hdL Dd Fs ?_;intro g3 x3 y3;exact tqq<|tqq<|tqQ<|Fj [2,3,4] (Ou ⟨age,seq,q,hs,⟨cv,cf,cn⟩⟩ ⟨x1,y1,x2,y2,x3,y3⟩) [] I ⟨I,I,I,trivial⟩ λ_=>⟨⟨x1,y1,x2,y2,x3,y3⟩,I,I,I⟩
   ·refine tqq ?_;refine⟨?_,?_⟩
    ·refine B0 5 2 Bt (λ_=>I) Mm ?_;intro g1 x1 y1;refine tqq<|tqq<|B0 9 4 wtL Ez Ja ?_;intro g2 x2 y2;refine tqq<|B0 13 3 hdL Dd Fs ?_;intro g3 x3 y3;exact tqq<|tqq<|tqQ<|Fj [2,4,3] (Ou ⟨age,seq,q,hs,⟨cv,cf,cn⟩⟩ ⟨x1,y1,x2,y2,x3,y3⟩) [] I ⟨I,I,I,trivial⟩ λ_=>⟨⟨x1,y1,x2,y2,x3,y3⟩,I,I,I⟩
    ·refine tqq<|B0 5 2 Bt (λ_=>I) Mm ?_;intro g1 x1 y1;refine tqq<|B0 9 4 wtL Ez Ja ?_;intro g2 x2 y2;refine tqq<|B0 13 3 hdL Dd Fs ?_;intro g3 x3 y3;exact tqq<|tqq<|tqQ<|Fj [2,4,3] (Ou ⟨age,seq,q,hs,⟨cv,cf,cn⟩⟩ ⟨x1,y1,x2,y2,x3,y3⟩) [] I ⟨I,I,I,trivial⟩ λ_=>⟨⟨x1,y1,x2,y2,x3,y3⟩,I,I,I⟩
 ·refine⟨?_,?_⟩
  ·refine tqq ?_;refine⟨?_,?_⟩
   ·refine tqq ?_;refine⟨?_,?_⟩
    ·refine B0 5 3 Bt (λ_=>I) Mm ?_;intro g1 x1 y1;refine tqq ?_;refine⟨?_,?_⟩
     ·refine B0 9 2 wtL Ez Ja ?_;intro g2 x2 y2;refine tqq<|tqq<|B0 13 4 hdL Dd Fs ?_;intro g3 x3 y3;exact tqq<|tqq<|tqQ<|Fj [3,2,4] (Ou ⟨age,seq,q,hs,⟨cv,cf,cn⟩⟩ ⟨x1,y1,x2,y2,x3,y3⟩) [] I ⟨I,I,I,trivial⟩ λ_=>⟨⟨x1,y1,x2,y2,x3,y3⟩,I,I,I⟩
     ·refine tqq<|B0 9 2 wtL Ez Ja ?_;intro g2 x2 y2;refine tqq<|B0 13 4 hdL Dd Fs ?_;intro g3 x3 y3;exact tqq<|tqq<|tqQ<|Fj [3,2,4] (Ou ⟨age,seq,q,hs,⟨cv,cf,cn⟩⟩ ⟨x1,y1,x2,y2,x3,y3⟩) [] I ⟨I,I,I,trivial⟩ λ_=>⟨⟨x1,y1,x2,y2,x3,y3⟩,I,I,I⟩
    ·refine tqq<|B0 5 3 Bt (λ_=>I) Mm ?_;intro g1 x1 y1;refine tqq<|B0 9 2 wtL Ez Ja ?_;intro g2 x2 y2;refine tqq<|B0 13 4 hdL Dd Fs ?_;intro g3 x3 y3;exact tqq<|tqq<|tqQ<|Fj [3,2,4] (Ou ⟨age,seq,q,hs,⟨cv,cf,cn⟩⟩ ⟨x1,y1,x2,y2,x3,y3⟩) [] I ⟨I,I,I,trivial⟩ λ_=>⟨⟨x1,y1,x2,y2,x3,y3⟩,I,I,I⟩
   ·refine tqq<|tqq<|B0 5 4 Bt (λ_=>I) Mm ?_;intro g1 x1 y1;refine tqq<|B0 9 2 wtL Ez Ja ?_;intro g2 x2 y2;refine tqq<|B0 13 3 hdL Dd Fs ?_;intro g3 x3 y3;exact tqq<|tqq<|tqQ<|Fj [4,2,3] (Ou ⟨age,seq,q,hs,⟨cv,cf,cn⟩⟩ ⟨x1,y1,x2,y2,x3,y3⟩) [] I ⟨I,I,I,trivial⟩ λ_=>⟨⟨x1,y1,x2,y2,x3,y3⟩,I,I,I⟩
  ·refine tqq ?_;refine⟨?_,?_⟩
   ·refine tqq ?_;refine⟨?_,?_⟩
    ·refine B0 5 3 Bt (λ_=>I) Mm ?_;intro g1 x1 y1;refine tqq<|tqq<|B0 9 4 wtL Ez Ja ?_;intro g2 x2 y2;refine tqq<|B0 13 2 hdL Dd Fs ?_;intro g3 x3 y3;exact tqq<|tqq<|tqQ<|Fj [3,4,2] (Ou ⟨age,seq,q,hs,⟨cv,cf,cn⟩⟩ ⟨x1,y1,x2,y2,x3,y3⟩) [] I ⟨I,I,I,trivial⟩ λ_=>⟨⟨x1,y1,x2,y2,x3,y3⟩,I,I,I⟩
    ·refine tqq<|B0 5 3 Bt (λ_=>I) Mm ?_;intro g1 x1 y1;refine tqq<|B0 9 4 wtL Ez Ja ?_;intro g2 x2 y2;refine tqq<|B0 13 2 hdL Dd Fs ?_;intro g3 x3 y3;exact tqq<|tqq<|tqQ<|Fj [3,4,2] (Ou ⟨age,seq,q,hs,⟨cv,cf,cn⟩⟩ ⟨x1,y1,x2,y2,x3,y3⟩) [] I ⟨I,I,I,trivial⟩ λ_=>⟨⟨x1,y1,x2,y2,x3,y3⟩,I,I,I⟩
   ·refine tqq<|tqq<|B0 5 4 Bt (λ_=>I) Mm ?_;intro g1 x1 y1;refine tqq<|B0 9 3 wtL Ez Ja ?_;intro g2 x2 y2;refine tqq<|B0 13 2 hdL Dd Fs ?_;intro g3 x3 y3;exact tqq<|tqq<|tqQ<|Fj [4,3,2] (Ou ⟨age,seq,q,hs,⟨cv,cf,cn⟩⟩ ⟨x1,y1,x2,y2,x3,y3⟩) [] I ⟨I,I,I,trivial⟩ λ_=>⟨⟨x1,y1,x2,y2,x3,y3⟩,I,I,I⟩
theorem BB (x:Tok) (p:Sls) (hx:x.small):Cm prog 35 [.agg (G5 x p).toArray] [] (Bs x p) (λe _ F1=>∃p',e=.returned (.agg (G5 x p').toArray)/\F1=Bs x p'):=(HJ x p hx).cm λ_ _ _ ⟨p',h1,h2,_⟩=>⟨Bs x p',⟨p',by rw[h1],I⟩,λf hf=>.inr (by rw[h2];exact Ab8 f hf)⟩
variable {k:Nat} {known:List Sta}
theorem Ahr:J5 (Ea k x known) k=Ea k x known:=by
 unfold J5;rw[Hi];intro w hw;obtain⟨i,s,h1,_,_,rfl⟩:=Wg hw;simp only[Q5,Ei,N6,ne_eq];omega
theorem LrnH.qOne {n s:Int} (H:LrnH n s x known) {o:Int} {t:Sta} (ho:x.seq[k]? =some o) (hk:known[k]? =some t):(bif decide (o<t.over) then J5 (qK k x known++Ea k x known) k else qK k x known++Ea k x known)=qK (k+1) x known++Ea k x known:=by
 rw[H.qStep ho hk];cases decide (o<t.over)
 ·rfl
 ·simp only[Ci];rw[J5,Js];exact Fb _ Ahr
theorem Zo {t:Sta} (hk:known[k]? =some t):Ea (k+1) x known=Ea k x known++bif O7 x known k t then [Q5 k t] else []:=by
 rw[EL,We,hk]
variable {q:List Wt}
theorem ZP {z:Int} (h:¬0<=Md q z):J5 q z=q:=by
 refine JY ?_;rw[<-Hq];exact Gg h
def Mx (p:Wu->Bool) (q:List Wt) (i:Nat):List Int:=((wus (q.take i)).filter p).map Wu.pos
theorem PI (p:Wu->Bool) (q:List Wt):Mx p q 0=[]:=by simp[Mx,wus,Us]
variable {i:Nat}
theorem PH {p:Wu->Bool} {x:Wt} (hx:q[i]? =some x):Mx p q (i+1)=Mx p q i++bif p ⟨x,i⟩ then [(i:Int)] else []:=by
 unfold Mx;rw[VS hx,Js,D6];cases h:p ⟨x,i⟩<;>simp[h]
theorem Aht (p:Wu->Bool) (q:List Wt):Mx p q q.length=((wus q).filter p).map Wu.pos:=by rw[Mx,D3]
theorem CR (p:Wu->Bool) (q:List Wt) (i:Nat):(Mx p q i).length<=q.length:=by
 unfold Mx;rw[Cr];refine Bf (Mq _ _) ?_;rw[GK,Am];omega
def Ns (c:Int) (q:List Wt):List Int:=(Zn c q).map Wu.pos
theorem Aky (c:Int) (q:List Wt):Ns c q=Mx (Jo c) q q.length++(Mx (Jk c 3) q q.length++(Mx (Jk c 2) q q.length++(Mx (Jk c 1) q q.length++Mx (Jk c 0) q q.length))):=by
 simp only[Ns,Zn,Aht,D6]
theorem Ahl (c:Int) (q:List Wt):(Ns c q).length=(Zn c q).length:=by rw[Ns,Cr]
theorem Akx {c:Int} {z:Int} (h:(Ns c q)[k]? =some z):∃u i,(Zn c q)[k]? =some u/\u.pos=z/\z=((i:Nat):Int)/\q[i]? =some u.w:=by
 unfold Ns at h;rw[Cq] at h;obtain⟨u,hu,rfl⟩:=Dn.1 h;have hm:u∈wus q:=by
  have:=Av hu;unfold Zn at this;simp only[B4,De] at this;rcases this with h|h|h|h|h<;>exact h.1
 obtain⟨i,x,h1,h2⟩:=Y0.1 hm;exact⟨u,i,hu,I,by rw[h2],by rw[h2];exact h1⟩
theorem Ac4 {p:α->Bool} {m:List α} (h:∀(j:Nat) v,m[j]? =some v->p v=false):m.find? p=none:=by
 rw[Rc];intro v hv;obtain⟨j,hj⟩:=B6.1 hv;rw[h j v hj];simp
def R0 (q:List Wt) (at_ i:Nat) (m:Int):List Wt:=(q.take i).map (M6 m)++((q.take at_).drop i++q.drop (at_+1))
theorem Ad4 (q:List Wt) (at_:Nat) (m:Int):R0 q at_ 0 m=q.take at_++q.drop (at_+1):=by simp[R0]
theorem TH (q:List Wt) (at_:Nat) (m:Int):R0 q at_ at_ m=F9 q at_ m:=by
 unfold R0 F9;rw[Oy (by rw[Am];omega),Cs]
theorem Ahc {at_:Nat} {m:Int} (h:at_<q.length) (hi:i<=at_):(R0 q at_ i m).length=q.length- 1:=by
 simp only[R0,Az,Cr,Am,Bn];omega
theorem Akp {at_:Nat} {m:Int} {x:Wt} (hx:q[i]? =some x) (hi:i<at_):(R0 q at_ i m)[i]? =some x:=by
 have h1:=(Aa.1 hx).1;unfold R0;rw[Dp (by rw[Cr,Am];omega),Cr,Am,C1 tqO,Le,Eo (by rw[Bn,Am];omega),E3,Db tqO];exact hx
theorem Ad3 {at_:Nat} {m:Int} {x:Wt} (hx:q[i]? =some x) (hi:i<at_):R0 q at_ (i+1) m=(R0 q at_ i m).set i (M6 m x):=by
 have h1:=(Aa.1 hx).1;unfold R0;rw[Dl,hx,D6,Pi _ _ (by rw[Cr,Am];omega),Cr,Am,C1 tqO,Le];have hd:(q.take at_).drop i=x::(q.take at_).drop (i+1):=by
  rw[H7 (by rw[Am];omega)]
  congr 1
  rw[List.getElem_take];exact(Aa.1 hx).2
 rw[hd];simp
theorem Agw {s me:Int} {y:Hd} (hB:Ff x.hs=true) (hy:x.hs[i]? =some y) (h1:wrH y=true) (h2:(y.site.tdiv s == me)=false):L3 s me x=some (y.site.tdiv s):=by
 obtain⟨h3,h4⟩:=Anl hB hy h1;unfold L3;rw[h3,h4,h2];rfl
theorem Ade {s me:Int} (h:∀(i:Nat) y,x.hs[i]? =some y->(wrH y&& !(y.site.tdiv s == me))=false):L3 s me x=none:=by
 unfold L3;cases ha:x.hs.any wrH
 ·rfl
 have h0:0<=Hl wrH x.hs:=by rw[<-Hq] at ha;simpa using ha
 obtain⟨j,y,hj,hy,hp⟩:=Rr h0;have hf:Hk wrH x.hs=y:=by unfold Hk;rw[Bi h0,hj];simp[D1,hy]
 have:=h j y hy;rw[hp,C8] at this;rw[hf,this];rfl
section
variable {X:Fx} {o:Oper} {T:TE} {L:LE} {F:List Fact}
variable {cap sz:Nat} {t:TypeId} {x:Operand}
theorem Ys {y:Operand} {a:Option Addr} {m i e:Nat} {ki:IntKind} {z:Int} (hz:z=(i:Int)) (hi:i<=m) (ho:o.op=.slice t x (some y) none none) (he:Ah X.tab.el t=some (e,sz)) (hx:evS T x=some (.o (.v (.slice a m cap)))) (hy:evS T y=some (.o (.v (.int ki z)))):
  Yd X o T L F (.o (.v (.slice (if cap=i then a else a.map (·.add (i*sz))) (m- i) (cap- i)))):=by
 subst hz;refine⟨by simp[Cw,ho],λA ρ a' w h0=>?_⟩;obtain⟨h1,i',h2,h3⟩:=Jg (X.ok.el _ _ he);have h4:=V7 h1;have h5:X.P.elem t=e:=by unfold Program.elem;rw[h1]
 have e1:=h0.ev hx;have e2:=h0.ev hy;simp only[TV.den,SV.den] at e1 e2;simp only at h2 h3;have hs:(sizeOf (X.P.elem t)).run X.P w=.ok sz w:=by rw[h5];simp[sizeOf,typeInfo,h2,h3]
 simp only[execOp,ho,Kh,Gf,e1,e2,Ba,Ln (h:=h4),run_slice_l (ht:=h4) (h0:=Hv i) (h1:=Int.ofNat_le.2 hi),hs,An,Bh,TV.den,SV.den];simp[sliced]
theorem Yq {y:Operand} {a:Option Addr} {m i e:Nat} {ki:IntKind} {z:Int} (hz:z=(i:Int)) (hi:i<=cap) (ho:o.op=.slice t x none (some y) none) (he:Ah X.tab.el t=some (e,sz)) (hx:evS T x=some (.o (.v (.slice a m cap)))) (hy:evS T y=some (.o (.v (.int ki z)))):
  Yd X o T L F (.o (.v (.slice a i cap))):=by
 subst hz;refine⟨by simp[Cw,ho],λA ρ a' w h0=>?_⟩;obtain⟨h1,i',h2,h3⟩:=Jg (X.ok.el _ _ he);have h4:=V7 h1;have h5:X.P.elem t=e:=by unfold Program.elem;rw[h1]
 have e1:=h0.ev hx;have e2:=h0.ev hy;simp only[TV.den,SV.den] at e1 e2;have hs:(sizeOf (X.P.elem t)).run X.P w=.ok i'.size w:=by rw[h5];simp[sizeOf,typeInfo,h2]
 simp only[execOp,ho,Kh,Gf,e1,e2,Ba,Ln (h:=h4),run_slice_h (ht:=h4) (h0:=Hv i) (h2:=Int.ofNat_le.2 hi),hs,An,Bh,TV.den,SV.den];simp[sliced,EB]
theorem Als {α:Type} {enc:α->List Value} {e:TypeId} (j:Nat) {g off m i q:Nat} {xs:List α} {y:α} {u:Value} (hj:Ah L j=some (.own (.slice (some ⟨g,0,none⟩) m cap) e sz m (xs.flatMap enc))) (hy:xs[i]? =some y) (henc:∀x,(enc x).length=sz) (hu:(enc y)[q]? =some u) (hm:0<m) (hoff:off=i*sz+q)
  (ho:o.op=.load t x) (hk:Ah X.tab.kd t=some none) (hx:evS T x=some (.o (.v (.pointer (some ⟨g,off,none⟩))))):Yd X o T L F (.o (.v u)):=by
 subst hoff;refine VV ho hk hx hj hm ?_;have:=CU henc hy hu [];rw[Bu] at this;simp only[Pf,Cq,this,Gf]
theorem Zl {α:Type} {enc:α->List Value} {n:Nat} {D:DF} {K:KK} {k:KS} {e:TypeId} {y:Operand} (j:Nat) {g off m i q:Nat} {xs:List α} {z:α} (z':α) {ys:List Value} {kd:Option Nat} {u:TV} (hj:Ah L j=some (.own (.slice (some ⟨g,0,none⟩) m cap) e sz m (xs.flatMap enc))) (hz:xs[i]? =some z) (henc:∀x,(enc x).length=sz) (ho:o.op=.store t x y) (hd:o.dst=none) (hk:Ah X.tab.kd t=some kd)
  (hx:evS T x=some (.o (.v (.pointer (some ⟨g,off,none⟩))))) (hoff:off=i*sz+q) (hy:evS T y=some u) (hu:u.cells=some (ys.map SV.v)) (hm:0<m) (hys:ys.length=kd.getD 1) (hv:∀v∈ys,v.oneCell'=true) (hq:q+ys.length<=sz) (he:(enc z).take q++ys++(enc z).drop (q+ys.length)=enc z')
  (h:k T ((j,.own (.slice (some ⟨g,0,none⟩) m cap) e sz m ((xs.set i z').flatMap enc))::L) n F D):OJs X o T L n F D k K:=by
 subst hoff;have h1:=(FZ henc hz []).2;have h2:=BO henc hz hq he [];simp only[Bu] at h1 h2;exact Yg j hj ho hd hk hx hy hu hm hys tqO hv h2 h
end
variable {D:DF} {F:List Fact} {L:LE} {T:TE} {X:Fx} {n:Nat}
theorem GH (j k:Nat) {v:Value} (hj:Nat.blt j n=true) (hk:Ah L k=some (.own v e sz m cells)):Wk X T L n F D ⟨T,(j,.own v e sz m cells)::(k,.dead)::L,n,F,D⟩:=by
 rintro a w ⟨hkb,ρ0,A,h0⟩;have hjn:j<n:=by simpa [Gr] using hj
 have key:∀ {ρ:Nm} {i:Nat} {x:LC} {b:Nat},Ah ((j,LC.own v e sz m cells)::(k,LC.dead)::L) i=some x->x.blk ρ i=some b->∃i' x',Ah L i'=some x'/\x'.blk ρ i'=some b/\(i'=k/\i=j\/i'≠k/\i'=i/\i≠j):=by
  intro ρ i x b hx hb;rw[As] at hx;split at hx
  ·rename_i ei;cases hx;exact⟨k,_,hk,hb,.inl ⟨I,ei⟩⟩
  rename_i ei;rw[As] at hx;split at hx
  ·cases hx;cases hb
  ·rename_i ek;exact⟨i,x,hx,hb,.inr ⟨ek,I,ei⟩⟩
 refine⟨λi x hx=>?_,ρ0,A,λρ hρ=>?_⟩
 ·show i<n
  rw[As] at hx;split at hx
  ·rename_i ei;omega
  rw[As] at hx;split at hx
  ·rename_i ek;rw[ek];exact hkb _ _ hk
  ·exact hkb i x hx
 have h1:=h0 ρ hρ;refine⟨⟨h1.tm,λi x hx=>?_,h1.a3⟩,h1.sz,h1.df,h1.kp,λi x b hx hb=>?_,λi i' x x' b hx hx' hb hb'=>?_,h1.a1,λb hb=>⟨(h1.a2 b hb).1,λi x hx hbk=>?_⟩,h1.mb⟩
 ·rw[As] at hx;split at hx
  ·cases hx;exact h1.lo k _ hk
  rw[As] at hx;split at hx
  ·cases hx;trivial
  ·exact h1.lo i x hx
 ·obtain⟨i',x',g1,g2,_⟩:=key hx hb;exact h1.nw i' x' b g1 g2
 ·obtain⟨p,y,g1,g2,g3⟩:=key hx hb;obtain⟨p',y',g4,g5,g6⟩:=key hx' hb';have:=h1.ds p p' y y' b g1 g4 g2 g5;rcases g3 with ⟨e1,e2⟩|⟨e1,e2,_⟩<;>rcases g6 with ⟨e3,e4⟩|⟨e3,e4,_⟩<;>omega
 ·obtain⟨i',x',g1,g2,_⟩:=key hx hbk;exact(h1.a2 b hb).2 i' x' g1 g2
variable {cap:Nat} {cs:List SV} {w:World}
theorem Rel.nameC {j g q:Nat} {tq:TypeId} {hs:List Value} {a:Act} (h:Rel X T L n F D a w) (hj:Ah L j=some (.ob g (Qb hs e))) (hq:Ah L q=some (.c cs tq)) (hi:cs[i]? =some (.v (.slice (some ⟨g,0,none⟩) m cap))):Rel X T ((q,.c (cs.set i (.s n 0 m cap)) tq)::(n,D9 hs e)::(j,.dead)::L) (n+1) F D a w:=by
 obtain⟨hkb,ρ0,A,h0⟩:=h;have hqn:=hkb _ _ hq;have hjn:=hkb _ _ hj;have hqj:q≠j:=λe=>by rw[e,hj] at hq;cases hq
 refine⟨λk e' hk=>?_,λi=>if i=n then g else ρ0 i,A,λρ hρ=>?_⟩
 ·rw[As] at hk;split at hk
  ·omega
  rw[As] at hk;split at hk
  ·omega
  rw[As] at hk;split at hk
  ·omega
  ·have:=hkb k e' hk;omega
 have rn:ρ n=g:=by simpa using hρ n tqO
 have h1:=h0 ρ λi hi=>by simpa [Km hi] using hρ i tqO
 have hcs:C4 ρ (cs.set i (.s n 0 m cap))=C4 ρ cs:=by
  unfold C4;rw[List.map_set];refine F6 λp=>?_;rw[Kb];split
  ·rename_i e;subst e;rw[Cq,hi,Cr,Bi (Aa.1 hi).1];simp[SV.den,rn]
  ·rfl
 have bl:∀k e' b,Ah ((q,LC.c (cs.set i (.s n 0 m cap)) tq)::(n,D9 hs e)::(j,LC.dead)::L) k=some e'->e'.blk ρ k=some b->∃k0 e0,Ah L k0=some e0/\e0.blk ρ k0=some b/\(k=n/\k0=j\/k≠n/\k0=k/\k≠j)/\(e0.holds ρ k0 w->e'.holds ρ k w):=by
  intro k e' b hk hb;rw[As] at hk;split at hk
  ·rename_i ek;cases hk;subst ek;refine⟨k,_,hq,hb,.inr ⟨tqO,I,hqj⟩,λhh=>?_⟩;simp only[LC.holds] at hh⊢;rw[hcs];exact hh
  rw[As] at hk;split at hk
  ·rename_i ek;cases hk;subst ek;simp only[D9,LC.blk,B7,rn] at hb;refine⟨j,_,hj,by rw[<-hb];rfl,.inl ⟨I,I⟩,λhh=>?_⟩;show w.heap[ρ k]? =_
   rw[rn];exact hh
  rename_i e1;rw[As] at hk;split at hk
  ·cases hk;simp[LC.blk] at hb
  ·rename_i e2;exact⟨k,e',hk,hb,.inr ⟨e1,I,e2⟩,id⟩
 refine⟨⟨h1.tm,λk e' hk=>?_,h1.a3⟩,h1.sz,h1.df,h1.kp,λk e' b hk hb=>?_,λk1 k2 f1 f2 b hk1 hk2 hb1 hb2=>?_,h1.a1,λb hb=>⟨(h1.a2 b hb).1,λk e' hk hbk=>?_⟩,h1.mb⟩
 ·cases hb:e'.blk ρ k with
  |some b=>
   obtain⟨k0,e0,g1,_,_,g4⟩:=bl k e' b hk hb;exact g4 (h1.lo k0 e0 g1)
  |none=>
   rw[As] at hk;split at hk
   ·cases hk;cases hb
   rw[As] at hk;split at hk
   ·cases hk;cases hb
   rw[As] at hk;split at hk
   ·cases hk;trivial
   ·exact h1.lo k e' hk
 ·obtain⟨k0,e0,g1,g2,_,_⟩:=bl k e' b hk hb;exact h1.nw k0 e0 b g1 g2
 ·obtain⟨k0,e0,g1,g2,g3,_⟩:=bl k1 f1 b hk1 hb1;obtain⟨k0',e0',g4,g5,g6,_⟩:=bl k2 f2 b hk2 hb2;have:=h1.ds k0 k0' e0 e0' b g1 g4 g2 g5;rcases g3 with ⟨e1,e2⟩|⟨e1,e2,e3⟩<;>rcases g6 with ⟨e4,e5⟩|⟨e4,e5,e6⟩<;>omega
 ·obtain⟨k0,e0,g1,g2,_,_⟩:=bl k e' b hk hbk;exact(h1.a2 b hb).2 k0 e0 g1 g2
theorem Rel.nameR {j q:Nat} {tq:TypeId} {ac:Act} (hr:Rel X T L n F D ac w) (hj:Ah L j=some (.own (.slice a m cap) e sz m cells)) (hq:Ah L q=some (.c cs tq)) (hi:cs[i]? =some (.v (.slice a m cap))) (hm:0<m):
  ∃junk,m<=cap/\junk.length+m*sz=cap*sz/\Rel X T ((q,.c (cs.set i (.s n 0 m cap)) tq)::(n,D9 (cells++junk) e)::(j,.dead)::L) (n+1) F D ac w:=by
 obtain⟨g,hs,h1,h2,h3,h4,h5,h6⟩:=hr.raw hj hm;subst h1;have hqj:q≠j:=λe=>by rw[e,hj] at hq;cases hq
 have h8:=h6.nameC (Gs _ _ _) (by rw[As,Ar hqj];exact hq) hi;have e1:cells++hs.drop (m*sz)=hs:=by rw[<-h3,Gp]
 have hle:m*sz<=cap*sz:=D0 _ h4;refine⟨hs.drop (m*sz),h4,by rw[Bn,h2];omega,?_⟩;rw[e1];exact h8.reL λk e' hk=>by
  by_cases k0:k=q
  ·subst k0;rw[Gs] at hk;cases hk;exact⟨_,Gs _ _ _,λ_=>I,λ_ h=>h⟩
  rw[As,Ar k0] at hk;by_cases k1:k=n
  ·subst k1;rw[Gs] at hk;cases hk;exact⟨_,by rw[As,Ar k0,Gs],λ_=>I,λ_ h=>h⟩
  rw[As,Ar k1] at hk;by_cases k2:k=j
  ·subst k2;rw[Gs] at hk;cases hk;exact⟨.dead,by rw[As,Ar k0,As,Ar k1,Gs],λ_=>I,λ_ h=>h⟩
  ·rw[As,Ar k2] at hk;exact⟨e',by rw[As,Ar k0,As,Ar k1,As,Ar k2,As,Ar k2];exact hk,λ_=>I,λ_ h=>h⟩
theorem Acs {c:Code} {K:KK} (j q i:Nat) {tq:TypeId} (hj:Ah L j=some (.own (.slice a m cap) e sz m cells)) (hq:Ah L q=some (.c cs tq)) (hi:cs[i]? =some (.v (.slice a m cap))) (hm:0<m)
  (h:∀junk:List Value,m<=cap->junk.length+m*sz=cap*sz->CJs X c T ((q,.c (cs.set i (.s n 0 m cap)) tq)::(n,D9 (cells++junk) e)::(j,.dead)::L) (n+1) F D K):CJs X c T L n F D K:=by
 intro Q hQ ac w hr;obtain⟨junk,h1,h2,h3⟩:=hr.nameR hj hq hi hm;exact h junk h1 h2 Q hQ ac w h3
theorem BU {σ τ:Sg} (h1:Wk X T L n F D σ) (h2:Wk X σ.T σ.L σ.n σ.F σ.D τ):Wk X T L n F D τ:=λa w h=>h2 a w (h1 a w h)
theorem EW (hn:n<=xs.length) {A:Nat->Prop} (h:(slF enc k (.slice a m cap) xs).h A w):(slF enc k (.slice (if cap=n then a else a.map (·.add (n*k))) (m- n) (cap- n)) (xs.drop n)).h A w:=by
 obtain⟨a',c',h1,h2,h3⟩:=h;cases h1;refine⟨_,cap- n,by rw[Bn],⟨by rw[Bn];omega,λe=>?_⟩,?_⟩
 ·split at e
  ·omega
  ·cases a with
   |none=>have:=h2.2 I;omega
   |some x=>cases e
 rcases h3 with h3|⟨b,off,rfl,h5,h6⟩
 ·exact .inl (by rw[h3];simp)
 ·by_cases hc:cap=n
  ·exact .inl (Oy tqO)
  ·rw[Ar hc];refine .inr ⟨b,off+n*k,by simp[Addr.add],h5,λi y hy j u hu=>?_⟩;have:=h6 (n+i) y (by rw[E3] at hy;exact hy) j u hu;rw[show off+(n+i)*k+j=off+n*k+i*k+j by rw[Fl];omega] at this;exact this
theorem JC {A:Nat->Prop} (h:(slF enc k (.slice a m cap) xs).h A w):m=xs.length/\m<=cap:=by
 obtain⟨a',c',h1,h2,_⟩:=h;cases h1;exact⟨I,h2.1⟩
def Ahf (enc:α->List Value) (t sz:Nat) (R:Value->Value) (xs:List α):V5:=λv Rs F1=>∃a c,v=R (.slice a xs.length c)/\Rs=[Wi enc t sz xs a c]/\F1=[]
def Ai9 (v0:Value):V5:=λv Rs F1=>v=v0/\Rs=[]/\F1=[]
theorem EP (a:Option Addr) (cap:Nat) (q:List Wt) (i:Nat) (hi:i<q.length) (hl:q.length<=1000000):Cv prog 261 [.slice a q.length cap,.int .i64 i] [slF wtL 5 (.slice a q.length cap) q] (Ahf wtL 167 5 id (q.take i++q.drop (i+1))):=by
 refine tqv [.o (.v (.slice a q.length cap)),.o (.v (.int .i64 i))] func261 ntmps261 I I (λ_=>I) λ_ _=>?_;refine Ec (p:=q.length<=cap) (slF wtL 5 (.slice a q.length cap) q) (λA w h=>(JC h).2) λhcap=>?_;refine Pw [slF wtL 5 (.slice a i cap) (q.take i),slF wtL 5 (.slice (if cap=i+1 then a else a.map (·.add ((i+1)*5))) (q.length- (i+1)) (cap- (i+1))) (q.drop (i+1))] (λA w h f hf=>by
  simp only[Ap,Bw,Ed] at hf;rcases hf with rfl|rfl
  ·exact Xt tqO (h (slF wtL 5 (.slice a q.length cap) q) tqS)
  ·exact EW tqO (h (slF wtL 5 (.slice a q.length cap) q) tqS)) ?_
 refine Ao [0,4,9] (.op 1<|.op 2<|.op 3<| tqs 5 4<| .op 0<| .op 4<| .op 9<| .op 10 .z) [] [] [] [] λ_=>?_;refine⟨_,Yq (i:=i) I tqO I I I I,?_⟩;refine⟨_,Cb (z:=((i+1:Nat):Int)) (ho:=I) (hx:=I) (hy:=I) (hr:=I) (hz:=by rw[Ey]<;>omega),?_⟩;refine⟨_,Ys (i:=i+1) I tqO I I I I,?_⟩;refine tqQ<|J6 5 5 [] ?_;intro g;refine Dq 0 (m':=i) (news:=(q.take i).flatMap wtL) I I I I I I I I I tqD I I I (Qg (enc:=wtL) (ys:=q.take i) I tqS Ez) (by rw[F8 Ez,Am,C1 tqO]) Ja tqO tqM ?_;intro a2 c2;refine tqQ<|Dq 0 (m':=q.length- (i+1)) (news:=(q.drop (i+1)).flatMap wtL) I I I I I I I I I tqD I I I (Qg (enc:=wtL) (ys:=q.drop (i+1)) I tqS Ez) (by rw[F8 Ez,Bn]) Ja tqO tqM ?_;intro a3 c3;refine tqQ ?_;have hwl:0+i+(q.length- (i+1))=(q.take i++q.drop (i+1)).length:=by rw[Az,Am,Bn];omega
 rw[hwl,Cs,<-Em];exact Fj [0] [Wi wtL 167 5 (q.take i++q.drop (i+1)) a3 c3] [] I ⟨I,trivial⟩ λ_=>⟨a3,c3,I,I,I⟩
def Ai4 (q:List Wt) (z:Int):V5:=λv Rs F1=>(J5 q z=q/\Ai9 (.tuple #[.slice none 0 0,.int .i64 5]) v Rs F1)\/Ahf wtL 167 5 (λu=>.tuple #[u,.int .i64 0]) (J5 q z) v Rs F1
theorem Aey (a:Option Addr) (cap:Nat) (q:List Wt) (z:Int) (hW:D5 q=true) (hl:q.length<=1000000):Cv prog 255 [.slice a q.length cap,.int .i64 z] [slF wtL 5 (.slice a q.length cap) q] (Ai4 q z):=by
 have hR:=AI a cap q hl;have hF:=CS a cap q z hl;rw[hW] at hR;refine tqv [.o (.v (.slice a q.length cap)),.o (.v (.int .i64 z))] func255 ntmps255 I I (λ_=>I) λ_ _=>?_;refine tqc I5 (λ_=>hR) ?_;refine tqc I5 (λ_=>hF) ?_;refine Ai (λh1=>?_) λh1=>?_
 ·exact Fj [] [] [] I trivial λ_=>.inl ⟨ZP tqO,I,I,I⟩
 obtain⟨i,x,hi,hx,hp⟩:=Rr (p:=λx:Wt=>x.site == z) (xs:=q) (show 0<=Md q z by omega);have hil:=(Aa.1 hx).1;have hdr:q.eraseIdx i=J5 q z:=Vg hi λj y hj hy=>by
  simp only[N6];intro e;have:=FH hW hx hy (by rw[e];simpa using hp);omega
 have hi':Md q z=((i:Nat):Int):=hi;rw[Ix] at hdr;have hV:=EP a cap q i hil hl;rw[hdr] at hV;rw[hi'];refine P1 [] I I I I I (λ_=>I) (hV) (.nil tqS) (.inl I) ?_;rintro v Rs F1 ⟨a1,c1,rfl,rfl,rfl⟩;exact Fj [0] [Wi wtL 167 5 (J5 q z) a1 c1] [] I ⟨I,trivial⟩ λ_=>.inr ⟨a1,c1,I,I,I⟩
def Ai5 (hs:List Hd) (z:Int):V5:=λv Rs F1=>(Lz hs z=hs/\Ai9 (.tuple #[.slice none 0 0,.int .i64 5]) v Rs F1)\/Ahf hdL 170 3 (λu=>.tuple #[u,.int .i64 0]) (Lz hs z) v Rs F1
theorem UD (a:Option Addr) (cap:Nat) (xs:List Hd) (z:Int) (hB:Ff xs=true) (hl:xs.length<=1000000):Cv prog 256 [.slice a xs.length cap,.int .i64 z,.int .i64 1099511627776] [slF hdL 3 (.slice a xs.length cap) xs] (Ai5 xs z):=by
 have hR:=CT a cap xs hl;have hF:=Yl a cap xs z hl;rw[hB] at hR;refine tqv [.o (.v (.slice a xs.length cap)),.o (.v (.int .i64 z)),.o (.v (.int .i64 1099511627776))] func256 ntmps256 I I (λ_=>I) λ_ _=>?_;refine tqc I5 (λ_=>hR) ?_;cases hA:xs.any (C9 z)
 ·have h0:Hl (C9 z) xs= -1:=by
   rw[<-Hq] at hA;unfold Hl at hA⊢;split at hA
   ·simp at hA
   ·rfl
  rw[h0] at hF;refine tqc I5 (λ_=>hF) ?_;exact Fj [] [] [] I trivial λ_=>.inl ⟨JX hA,I,I,I⟩
 obtain⟨i,x,hi,hx,hs,_,_⟩:=Za hA;have hil:=(Aa.1 hx).1;have hu:x.use<=1099511627776:=by
  have:=A6.1 (Tl hB).1 x (Av hx);simp only[hdB,Ad,Aq] at this;omega
 have hdr:xs.eraseIdx i=Lz xs z:=Vg hi λj y hj hy=>by
  simp only[C9,N6];intro e;have:=ON hB hx hy (by rw[hs,e]);omega
 rw[Ix] at hdr;rw[hi] at hF;refine tqc I5 (λ_=>hF) ?_;refine Dk (slF hdL 3 (.slice a xs.length cap) xs) (B1 hx) ?_;rintro ⟨b,off,rfl⟩;refine Au (Bb (i:=i)) ?_;refine Au (Ce (slF hdL 3 (.slice (some ⟨b,off,none⟩) xs.length cap) xs) (Eg hx (j:=1) I)) ?_;refine Ai (λh2=>?_) λh2=>?_
 ·omega
 obtain⟨a,ha⟩:∃a:Option Addr,a=some ⟨b,off,none⟩:=⟨_,I⟩;rw[<-ha];refine Ec (p:=xs.length<=cap) (slF hdL 3 (.slice a xs.length cap) xs) (λA w h=>(JC h).2) λhcap=>?_;refine Pw [slF hdL 3 (.slice a i cap) (xs.take i),slF hdL 3 (.slice (if cap=i+1 then a else a.map (·.add ((i+1)*3))) (xs.length- (i+1)) (cap- (i+1))) (xs.drop (i+1))] (λA w h f hf=>by
  simp only[Ap,Bw,Ed] at hf;rcases hf with rfl|rfl
  ·exact Xt tqO (h (slF hdL 3 (.slice a xs.length cap) xs) tqS)
  ·exact EW tqO (h (slF hdL 3 (.slice a xs.length cap) xs) tqS)) ?_
 refine Ao [0,4,9] (.op 1<|.op 2<|.op 3<| tqs 5 4<| .op 0<| .op 4<| .op 9<|.op 10<| .op 11 .z) [] [] [] [] λ_=>?_;refine⟨_,Yq (i:=i) I tqO I I I I,?_⟩;refine⟨_,Cb (z:=((i+1:Nat):Int)) (ho:=I) (hx:=I) (hy:=I) (hr:=I) (hz:=by rw[Ey]<;>omega),?_⟩;refine⟨_,Ys (i:=i+1) I tqO I I I I,?_⟩;refine tqQ<|J6 26 3 [] ?_;intro g;refine Dq 0 (m':=i) (news:=(xs.take i).flatMap hdL) I I I I I I I I I tqD I I I (Qg (enc:=hdL) (ys:=xs.take i) I tqS Dd) (by rw[F8 Dd,Am,C1 tqO]) Fs tqO tqM ?_;intro a2 c2;refine tqQ<|Dq 0 (m':=xs.length- (i+1)) (news:=(xs.drop (i+1)).flatMap hdL) I I I I I I I I I tqD I I I (Qg (enc:=hdL) (ys:=xs.drop (i+1)) I tqS Dd) (by rw[F8 Dd,Bn]) Fs tqO tqM ?_;intro a3 c3;refine tqQ ?_;have hwl:0+i+(xs.length- (i+1))=(xs.take i++xs.drop (i+1)).length:=by rw[Az,Am,Bn];omega
 rw[hwl,Cs,<-Em];rw[hdr];exact Fj [0] [Wi hdL 170 3 (Lz xs z) a3 c3] [] I ⟨I,trivial⟩ λ_=>.inr ⟨a3,c3,I,I,I⟩
theorem Agl {z:Int}:∀v Rs F1,Ai4 q z v Rs F1->F1=[]:=by
 rintro v Rs F1 (⟨_,_,_,rfl⟩|⟨_,_,_,_,rfl⟩)<;>rfl
theorem RV {q:List Hd} {z:Int}:∀v Rs F1,Ai5 q z v Rs F1->F1=[]:=by
 rintro v Rs F1 (⟨_,_,_,rfl⟩|⟨_,_,_,_,rfl⟩)<;>rfl
theorem YJ {u:Value}:∀e cs F1,Bd u e cs F1->F1=[]:=λ_ _ _ h=>h.2
theorem And {P:Prop} {β γ δ:Type} {G:α->β->γ->δ->Prop} (h1:(∀a b c d,G a b c d)->P) (h2:∀a b c d,G a b c d):P:=h1 h2
theorem Abb (n l s:Int) (x:Tok) (p:Sls) (a4:Option Addr) (c4:Nat) (known:List Sta) (hx:x.small) (hk:known.length<=1000000):Cm prog 164 [.agg #[.int .i64 n,.int .i64 l,.int .i64 s],.agg (G5 x p).toArray,.slice a4 known.length c4] [] (Bs x p++[slF Bv 4 (.slice a4 known.length c4) known]) (Ads .i64 n l s x known):=by
 have hR:=Zq n l s x p hx;have hN:=LB n l s a4 c4 known hk;have hC:=HJ x p hx;refine tqm [.g [.v (.int .i64 n),.v (.int .i64 l),.v (.int .i64 s)],.g (Ps x p),.o (.v (.slice a4 known.length c4))] func164 ntmps164 λ_ _=>?_;refine tqc I5 (λ_=>hR) (hF0:=by simp[Bs]) ?_;cases hB:Fq n l s x
 ·refine Eh (Bs Fd Dx) (λA w _ f hf=>Ib f hf) ?_;exact Al (Bs Fd Dx) I2 λ_=>.inr ⟨by rw[hB];rfl,I,I⟩
 refine tqc I5 (λ_=>hN) ?_;cases hK:Hn n l s known
 ·refine Eh (Bs Fd Dx) (λA w _ f hf=>Ib f hf) ?_;exact Al (Bs Fd Dx) I2 λ_=>.inr ⟨by rw[hB,hK];rfl,I,I⟩
 have H:=LrnH.of hB hK;have hpos:0<x.seq.length:=by
  have h1:=Um (n:=n) (l:=l) (s:=s) (by simp only[Fq,Ad] at hB;exact hB.1.1.1.1.1.1.1.1.1);have h2:=H.ns;have h3:=H.len;omega
 refine P1 [] I I I I I (λ_=>I) (hC) (.nil (by simp[Bs])) (.inl I) ?_;rintro v Rs F1 ⟨⟨a1,c1,a2,c2,a3,c3⟩,rfl,rfl,rfl⟩;refine Acs 3 6 1 I I I hpos λjunk hcap hjl=>?_;have hql:∀k j,j<=k->(qK k x known++Ea j x known).length<=256:=λk j h=>(Ft.1 (H.waitMix (a:=k) (b:=j) h)).1;have hhl:∀k,(hsK k x known).length<=1000000:=λk=>Bf (Mq _ _) hx.2.2;refine K5 [(9,.o (.v (.int .i64 0))),(2,.o (.v (.slice a4 known.length c4))),(6,.o (.p 2 0)),(8,.o (.p 6 0))] [(6,.c [.v (.int .i64 x.age),.s 7 0 x.seq.length c1,.v (.slice a2 (x.q).length c2),.v (.slice a3 (x.hs).length c3),.v (.int .i64 x.c.value),.v (.int .i64 x.c.floor),.v (.int .u64 x.c.version)] 33),(7,D9 ((x.seq).flatMap Bt++junk) 2),(4,.own (.slice a2 (x.q).length c2) 167 5 (x.q).length ((x.q).flatMap wtL)),(5,.own (.slice a3 (x.hs).length c3) 170 3 (x.hs).length ((x.hs).flatMap hdL)),(2,.c ((G5 Fd Dx).map SV.v) 33)] 8 [slF Bv 4 (.slice a4 known.length c4) known] Ac ?_;refine Br (γ:=Nat×(Option Addr×Nat)×Option Addr×Nat) (λg=>g.1<=known.length) (λg=>[(9,.o (.v (.int .i64 g.1)))]) (λu=>[(6,.c [.v (.int .i64 x.age),.s 7 0 x.seq.length c1,.v (.slice u.2.1.1 (qK u.1 x known++Ea u.1 x known).length u.2.1.2),.v (.slice u.2.2.1 (hsK u.1 x known).length u.2.2.2),.v (.int .i64 x.c.value),.v (.int .i64 x.c.floor),.v (.int .u64 x.c.version)] 33),(7,D9 ((sqK u.1 x known).flatMap Bt++junk) 2),(4,.own (.slice u.2.1.1 (qK u.1 x known++Ea u.1 x known).length u.2.1.2) 167 5 (qK u.1 x known++Ea u.1 x known).length ((qK u.1 x known++Ea u.1 x known).flatMap wtL)),(5,.own (.slice u.2.2.1 (hsK u.1 x known).length u.2.2.2) 170 3 (hsK u.1 x known).length ((hsK u.1 x known).flatMap hdL))]) (λ_=>[]) (λg=>known.length- g.1) (0,(a2,c2),a3,c3) (Ax _) ?_ ?_
 ·simp only[YI x known H.wait,SM x known H.hold,sqK,AC,Ea,List.range_zero,Nj,Bu];exact Ac
 rintro ⟨k,⟨a2,c2⟩,a3,c3⟩ hkl;dsimp only at hkl⊢;refine Ai (λh1=>?_) λh1=>?_;rotate_left
 ·obtain rfl:k=known.length:=by omega
  have hsl:(sqK known.length x known).length=x.seq.length:=by rw[H.seqLen,H.len]
  refine Dj (D8 (j:=4) (v:=.slice a2 (qK known.length x known++Ea known.length x known).length c2) (m:=(qK known.length x known++Ea known.length x known).length) (enc:=wtL) (xs:=qK known.length x known++Ea known.length x known) (.inl I) Ez I I) ?_;refine Dj (D8 (j:=5) (v:=.slice a3 (hsK known.length x known).length c3) (m:=(hsK known.length x known).length) (enc:=hdL) (xs:=hsK known.length x known) (.inl I) Dd I I) ?_;refine KA 7 I I I I λg=>?_;refine Eh (Bs (Gt x known) ⟨some ⟨g,0,none⟩,c1,a2,c2,a3,c3⟩) (λA w h f hf=>by
   simp only[Bs,Ap,Bw,Ed] at hf;rcases hf with rfl|rfl|rfl
   ·exact Wj (enc:=Bt) I (by show (sqK known.length x known).length<=c1;dsimp only at hcap;omega) (λ_=>I) (h (B9 g ((sqK known.length x known).flatMap Bt++junk) 2) tqS)
   ·exact h _ (by simp[Gt])
   ·exact h _ (by simp[Gt])) ?_
  exact Al (Bs (Gt x known) ⟨some ⟨g,0,none⟩,c1,a2,c2,a3,c3⟩) I2 (λ_=>.inl ⟨by rw[hB,hK];rfl,⟨some ⟨g,0,none⟩,c1,a2,c2,a3,c3⟩,by unfold G5 Gt;dsimp only;rw[hsl];rfl,I⟩) (hF:=λf hf=>by simp[hf])
 obtain⟨t,ht⟩:=A9 (xs:=known) (k:=k);obtain⟨o,ho⟩:=A9 (xs:=x.seq) (k:=k) (h:=by rw[H.len];omega);have hsk:(sqK k x known)[k]? =some o:=by rw[H.seqAt ho ht,Ar (Tz _)]
 have hkx:k<x.seq.length:=by rw[H.len];omega
 have hqs:=H.qOne ho ht;have hhs:=H.hsStep ho ht;have hss:=H.seqStep ho ht;refine Dk (slF Bv 4 (.slice a4 known.length c4) known) (B1 ht) ?_;rintro ⟨b,off,rfl⟩;refine Au (Bb (i:=k)) ?_;refine Au (Cu (vs:=Bv t) (slF Bv 4 (.slice (some ⟨b,off,none⟩) known.length c4) known) (Du ht)) ?_;apply And (α:=Option Addr) (β:=Nat) (γ:=Option Addr) (δ:=Nat)
 ·intro tail;refine Ao [] (tqs 0 7<| .op 7 .z) [6,7,8] [] [] [] λ_=>?_;refine⟨_,Ay (i:=k) (hi:=hkx),?_⟩;refine⟨_,GM (enc:=Bt) (sz:=1) (q:=0) hsk (λ_=>I) I (by rw[Bl,Eb]) I I I I,?_⟩;refine Ai (λh2=>?_) λh2=>?_
  ·have hqs2:=hqs;have hhs2:=hhs;have hss2:=hss;rw[D4 h2,Ci] at hqs2 hhs2 hss2;have hW:=H.waitMix (a:=k) (b:=k) (Ak _);have hHd:Ff (hsK k x known)=true:=Vm _ H.hold;refine Au (Ay (i:=k) (hi:=hkx)) ?_;refine Zm (q:=0) (enc:=Bt) (sz:=1) (ys:=[.int .i64 t.over]) t.over hsk (λ_=>I) I I I I (by rw[Bl,Eb]) I I (by simp[Value.oneCell']) I I (Ak _) I ?_;rw[<-hss2];refine P1 [4] I I I I I (λ_=>I) (Aey a2 c2 (qK k x known++Ea k x known) k hW (by have:=hql k k (Ak _);omega)) (.cons I Ez I I (.nil tqS)) (.inr Agl) ?_;rintro v Rs F1 (⟨e1,rfl,rfl,rfl⟩|⟨a5,c5,rfl,rfl,rfl⟩);rotate_left
   ·rw[hqs2];refine P1 [5] I I I I I (λ_=>I) (UD a3 c3 (hsK k x known) k hHd (hhl k)) (.cons I Dd I I (.nil tqS)) (.inr RV) ?_;rintro v Rs F1 (⟨e2,rfl,rfl,rfl⟩|⟨a6,c6,rfl,rfl,rfl⟩);rotate_left
    ·rw[<-hhs2];exact K5 [(9,.o (.v (.int .i64 k))),(2,.o (.v (.slice (some ⟨b,off,none⟩) known.length c4))),(6,.o (.p 2 0)),(8,.o (.p 6 0)),(10,.o (.p 8 0))] [(6,.c [.v (.int .i64 x.age),.s 7 0 x.seq.length c1,.v (.slice a5 (qK (k+1) x known++Ea k x known).length c5),.v (.slice a6 (hsK (k+1) x known).length c6),.v (.int .i64 x.c.value),.v (.int .i64 x.c.floor),.v (.int .u64 x.c.version)] 33),(7,D9 ((sqK (k+1) x known).flatMap Bt++junk) 2),(4,.own (.slice a5 (qK (k+1) x known++Ea k x known).length c5) 167 5 (qK (k+1) x known++Ea k x known).length ((qK (k+1) x known++Ea k x known).flatMap wtL)),(5,.own (.slice a6 (hsK (k+1) x known).length c6) 170 3 (hsK (k+1) x known).length ((hsK (k+1) x known).flatMap hdL)),(8,.c ((Bv t).map SV.v) 74),(2,.c ((G5 Fd Dx).map SV.v) 33)] 9 [slF Bv 4 (.slice (some ⟨b,off,none⟩) known.length c4) known] (BU (GH 4 9 I I)<|BU (GH 5 10 I I) Ac) (tail a5 c5 a6 c6)
    ·rw[e2.symm.trans hhs2.symm];exact K5 [(9,.o (.v (.int .i64 k))),(2,.o (.v (.slice (some ⟨b,off,none⟩) known.length c4))),(6,.o (.p 2 0)),(8,.o (.p 6 0)),(10,.o (.p 8 0))] [(6,.c [.v (.int .i64 x.age),.s 7 0 x.seq.length c1,.v (.slice a5 (qK (k+1) x known++Ea k x known).length c5),.v (.slice a3 (hsK (k+1) x known).length c3),.v (.int .i64 x.c.value),.v (.int .i64 x.c.floor),.v (.int .u64 x.c.version)] 33),(7,D9 ((sqK (k+1) x known).flatMap Bt++junk) 2),(4,.own (.slice a5 (qK (k+1) x known++Ea k x known).length c5) 167 5 (qK (k+1) x known++Ea k x known).length ((qK (k+1) x known++Ea k x known).flatMap wtL)),(5,.own (.slice a3 (hsK (k+1) x known).length c3) 170 3 (hsK (k+1) x known).length ((hsK (k+1) x known).flatMap hdL)),(8,.c ((Bv t).map SV.v) 74),(2,.c ((G5 Fd Dx).map SV.v) 33)] 9 [slF Bv 4 (.slice (some ⟨b,off,none⟩) known.length c4) known] (BU (GH 4 9 I I) Ac) (tail a5 c5 a3 c3)
   ·rw[e1.symm.trans hqs2];refine P1 [5] I I I I I (λ_=>I) (UD a3 c3 (hsK k x known) k hHd (hhl k)) (.cons I Dd I I (.nil tqS)) (.inr RV) ?_;rintro v Rs F1 (⟨e2,rfl,rfl,rfl⟩|⟨a6,c6,rfl,rfl,rfl⟩);rotate_left
    ·rw[<-hhs2];exact K5 [(9,.o (.v (.int .i64 k))),(2,.o (.v (.slice (some ⟨b,off,none⟩) known.length c4))),(6,.o (.p 2 0)),(8,.o (.p 6 0)),(10,.o (.p 8 0))] [(6,.c [.v (.int .i64 x.age),.s 7 0 x.seq.length c1,.v (.slice a2 (qK (k+1) x known++Ea k x known).length c2),.v (.slice a6 (hsK (k+1) x known).length c6),.v (.int .i64 x.c.value),.v (.int .i64 x.c.floor),.v (.int .u64 x.c.version)] 33),(7,D9 ((sqK (k+1) x known).flatMap Bt++junk) 2),(4,.own (.slice a2 (qK (k+1) x known++Ea k x known).length c2) 167 5 (qK (k+1) x known++Ea k x known).length ((qK (k+1) x known++Ea k x known).flatMap wtL)),(5,.own (.slice a6 (hsK (k+1) x known).length c6) 170 3 (hsK (k+1) x known).length ((hsK (k+1) x known).flatMap hdL)),(8,.c ((Bv t).map SV.v) 74),(2,.c ((G5 Fd Dx).map SV.v) 33)] 9 [slF Bv 4 (.slice (some ⟨b,off,none⟩) known.length c4) known] (BU (GH 5 9 I I) Ac) (tail a2 c2 a6 c6)
    ·rw[e2.symm.trans hhs2.symm];exact K5 [(9,.o (.v (.int .i64 k))),(2,.o (.v (.slice (some ⟨b,off,none⟩) known.length c4))),(6,.o (.p 2 0)),(8,.o (.p 6 0)),(10,.o (.p 8 0))] [(6,.c [.v (.int .i64 x.age),.s 7 0 x.seq.length c1,.v (.slice a2 (qK (k+1) x known++Ea k x known).length c2),.v (.slice a3 (hsK (k+1) x known).length c3),.v (.int .i64 x.c.value),.v (.int .i64 x.c.floor),.v (.int .u64 x.c.version)] 33),(7,D9 ((sqK (k+1) x known).flatMap Bt++junk) 2),(4,.own (.slice a2 (qK (k+1) x known++Ea k x known).length c2) 167 5 (qK (k+1) x known++Ea k x known).length ((qK (k+1) x known++Ea k x known).flatMap wtL)),(5,.own (.slice a3 (hsK (k+1) x known).length c3) 170 3 (hsK (k+1) x known).length ((hsK (k+1) x known).flatMap hdL)),(8,.c ((Bv t).map SV.v) 74),(2,.c ((G5 Fd Dx).map SV.v) 33)] 9 [slF Bv 4 (.slice (some ⟨b,off,none⟩) known.length c4) known] (id Ac) (tail a2 c2 a3 c3)
  ·have hqs2:=hqs;have hhs2:=hhs;have hss2:=hss;rw[Gg h2,By] at hqs2 hhs2 hss2;rw[hqs2,<-hhs2,<-hss2];exact K5 [(9,.o (.v (.int .i64 k))),(2,.o (.v (.slice (some ⟨b,off,none⟩) known.length c4))),(6,.o (.p 2 0)),(8,.o (.p 6 0)),(10,.o (.p 8 0))] [(6,.c [.v (.int .i64 x.age),.s 7 0 x.seq.length c1,.v (.slice a2 (qK (k+1) x known++Ea k x known).length c2),.v (.slice a3 (hsK (k+1) x known).length c3),.v (.int .i64 x.c.value),.v (.int .i64 x.c.floor),.v (.int .u64 x.c.version)] 33),(7,D9 ((sqK (k+1) x known).flatMap Bt++junk) 2),(4,.own (.slice a2 (qK (k+1) x known++Ea k x known).length c2) 167 5 (qK (k+1) x known++Ea k x known).length ((qK (k+1) x known++Ea k x known).flatMap wtL)),(5,.own (.slice a3 (hsK (k+1) x known).length c3) 170 3 (hsK (k+1) x known).length ((hsK (k+1) x known).flatMap hdL)),(8,.c ((Bv t).map SV.v) 74),(2,.c ((G5 Fd Dx).map SV.v) 33)] 9 [slF Bv 4 (.slice (some ⟨b,off,none⟩) known.length c4) known] (id Ac) (tail a2 c2 a3 c3)
 ·intro a2 c2 a3 c3;have hPen:=Aa8 (a:=k+1) (b:=k) tqO (Ak _) ho ht;have hsk2:(sqK (k+1) x known)[k]? =some (upS o t):=by rw[H.seqAt ho ht,Bi (Nl _)]
  have hQl:=hql (k+1) k tqO;have hFw:=CS a2 c2 (qK (k+1) x known++Ea k x known) k tqO;have hHs:=UH a3 c3 (hsK (k+1) x known) k (hhl _);clear hqs hhs hss hsk;refine Ao [16,23] (tqs 0 25<| .op 25 .z) [6,7,8] [] [] [] λ_=>?_;conv=>whnf
  cases hp:t.pend
  ·have hpl:Ea (k+1) x known=Ea k x known:=by
    rw[Zo ht,show O7 x known k t=false by rw[hPen];simp[hp],By,Bu]
   refine Af (z:=(k+1:Nat)) ?_;refine⟨(k+1,(a2,c2),a3,c3),tqP,tqP,?_⟩;simp only[hpl];exact Ac
  refine⟨_,Ay (i:=k) (hi:=hkx),?_⟩;refine⟨_,GM (enc:=Bt) (sz:=1) (q:=0) hsk2 (λ_=>I) I (by rw[Bl,Eb]) I I I I,?_⟩;refine A7 (λh2=>?_) λh2=>?_;rotate_left
  ·have h3:decide (t.over=upS o t)=false:=by simpa using h2
   have hpl:Ea (k+1) x known=Ea k x known:=by
    rw[Zo ht,show O7 x known k t=false by rw[hPen];simp[hp,h3],By,Bu]
   refine Af (z:=(k+1:Nat)) ?_;refine⟨(k+1,(a2,c2),a3,c3),tqP,tqP,?_⟩;simp only[hpl];exact Ac
  have h3:decide (t.over=upS o t)=true:=by simpa using h2
  rw[hp,h3,C8,C8] at hPen;refine ED 4 I I I Ez I I I I I (λ_=>hFw) tqS YJ ?_;rintro e cs ⟨rfl,-⟩;refine tqQ ?_;have hA:=Hq (p:=λw:Wt=>w.site == (k:Int)) (xs:=qK (k+1) x known++Ea k x known);refine Ai (λh4=>?_) λh4=>?_;rotate_left
  ·have h5:(qK (k+1) x known++Ea k x known).any (λw=>w.site == (k:Int))=true:=by rw[<-hA];exact D4 (show 0<=Md _ _ by omega)
   have hpl:Ea (k+1) x known=Ea k x known:=by
    rw[Zo ht,show O7 x known k t=false by rw[hPen];simp[h5],By,Bu]
   refine Af (z:=(k+1:Nat)) ?_;refine⟨(k+1,(a2,c2),a3,c3),tqP,tqP,?_⟩;simp only[hpl];exact Ac
  have h5:(qK (k+1) x known++Ea k x known).any (λw=>w.site == (k:Int))=false:=by rw[<-hA];exact Gg (show ¬0<=Md _ _ by omega)
  rw[h5,Bool.not_false,C8] at hPen;refine ED 5 I I I Dd I I I I I (λ_=>hHs) tqS YJ ?_;rintro e cs ⟨rfl,-⟩;refine tqQ ?_;conv=>whnf
  cases h6:(hsK (k+1) x known).any (C9 k);rotate_left
  ·have hpl:Ea (k+1) x known=Ea k x known:=by
    rw[Zo ht,show O7 x known k t=false by rw[hPen];simp[h6],By,Bu]
   refine Af (z:=(k+1:Nat)) ?_;refine⟨(k+1,(a2,c2),a3,c3),tqP,tqP,?_⟩;simp only[hpl];exact Ac
  rw[h6,Bool.not_false] at hPen;have hwt:=(H.pen ht hPen).1;have hov:0<=t.over/\t.over<=1099511627776:=by
   have g:=H.sta t (Av ht);rw[Gk,hp,Ci] at g;simp only[Ad,Aq] at g;omega
  refine Af (z:=t.over+1) ?_;refine Dq 4 (m':=1) (news:=wtL (Q5 k t)) I I I I I I I I I tqD I I I (Uq (news:=wtL (Q5 k t)) I I) I (λv hv=>Ja (xs:=[Q5 k t]) v (by simpa using hv)) tqO tqM ?_;intro a5 c5;have hpl:Ea (k+1) x known=Ea k x known++[Q5 k t]:=by rw[Zo ht,hPen,Ci]
  have e3:(qK (k+1) x known++Ea k x known).length+1=(qK (k+1) x known++Ea (k+1) x known).length:=by rw[hpl];simp only[Az,Ct,Ep];omega
  have e4:(qK (k+1) x known++Ea k x known).flatMap wtL++wtL (Q5 k t)=(qK (k+1) x known++Ea (k+1) x known).flatMap wtL:=by rw[hpl];simp
  rw[e3,e4];refine Af (z:=(k+1:Nat)) ?_;refine⟨(k+1,(a5,c5),a3,c3),tqP,tqP,?_⟩;exact Ac
end Go.Proofs.YtjofafbkkpdgbaaGreat
