/- A part of the proof of LockOpens: rules and contracts. No condition. -/
import Derived.Test.YtjofafbkkpdgbaaGreatPnab
set_option maxRecDepth 100000
set_option maxHeartbeats 4000000
set_option linter.all false
namespace Go.Proofs.YtjofafbkkpdgbaaGreat
open Go.RowKit Go.Shelf
section
variable {X:Fx} {ops l:List Oper} {o:Oper} {T:TE} {L:LE} {n:Nat} {F:List Fact} {D:DF} {K:KK} {k:KS} {c:Code}
variable {ca:List PV} {g:Nat}
theorem OZ {cl:Call} {f:Operand} {fi:List PV} {us:List TV} (hr:X.r=none) (ho:o.op=.defer cl) (hd:o.dst=none) (hc:cl.callee=.value f) (hf:Va T f=some (g,fi,ca)) (hus:Rg T cl.args.toList=some us)
  (h:k T L n F λρ=> {target:=.fn (.func g) (ca.map (PV.den ρ)).toArray,args:=(fi.map (PV.den ρ)++us.map (TV.den ρ)).toArray}::D ρ):OJs X o T L n F D k K:=by
 intro Q hQ Φ hΦ a w hr0;have hrun:∀A ρ,Rel0 X T L F D A ρ a w->(execOp a.eval o).run X.P w=.ok (.defer {target:=.fn (.func g) (ca.map (PV.den ρ)).toArray,args:=(fi.map (PV.den ρ)++us.map (TV.den ρ)).toArray}) w:=by
  intro A ρ h0;have e1:=Y3 h0.toVw hus;have e2:cl.args.map a.eval=(us.map (TV.den ρ)).toArray:=by apply Cn;rw[Di];exact e1
  unfold Va at hf;split at hf
  ·rename_i g' fi' ca' hv;cases hf;have e3:=h0.ev hv;simp only[TV.den,SV.den] at e3;simp[execOp,ho,resolve,hc,e3,Deferred.ofValue,e2,PV.den,Ll]
  ·rename_i g' fi' ca' hv;cases hf;have e3:=h0.ev hv;simp only[TV.den,SV.den] at e3;simp[execOp,ho,resolve,hc,e3,Deferred.ofValue,e2]
  ·cases hf
 obtain⟨hkb,ρ0,A,hr1⟩:=hr0;have h0:=hr1 ρ0 λ_ _=>I;refine⟨λf' hf'=>trivial,?_⟩;have hfe:X.fe.round=none:=hr;rw[hfe,Oper.semAt_none,hrun A ρ0 h0];show Φ ({a with defers:=_::a.defers}.put o.dst undef) w
 rw[hd];refine hΦ _ _ _ _ _ h _ _ ⟨hkb,ρ0,A,λρ hρ=>?_⟩;have h1:=hr1 ρ hρ;refine⟨⟨h1.tm,h1.lo,h1.a3⟩,h1.sz,?_,h1.kp,h1.nw,h1.ds,h1.a1,h1.a2,h1.mb⟩;have e1:=hrun A ρ h1;rw[hrun A ρ0 h0] at e1;injection e1 with e1
 injection e1 with e1
 show _::a.defers=_
 rw[e1,h1.df]
theorem EF {x:Operand} {t:TypeId} {v:Value} (ho:o.op=.panic x) (hx:evS T x=some (.o (.v (.iface t v)))) (h:K (.panic [{v:=.iface t v,recovered:=false}]) T L n F D):OJs X o T L n F D k K:=by
 intro Q hQ Φ hΦ a w hr;obtain⟨A,ρ,h0⟩:=hr.one;refine Oper.wpIn_of_run (by simp[Cw,ho]) ?_;have e1:=h0.ev hx;simp only[TV.den,SV.den] at e1;have:(execOp a.eval o).run X.P w=.halt (.panic (.iface t v)) w:=by
  simp[execOp,ho,e1,Instr.panic]
 rw[this];exact hQ _ _ _ _ _ _ h a w hr
def Lv (X:Fx) (res:List ResultVar) (mu:List MB) (Out:Gx) (u:FrameMode) (T:TE) (L:LE) (n:Nat) (F:List Fact) (D:DF):Prop:=
 ∀a w,Rel X T L n F D a w->∀fn:Func,fn.results.toList=res->LeavesInM Fence.wide 8 X.P fn a.tmps (Res X.w0 X.A0 mu Out) a.defers u w
def Aor (X:Fx) (res:List ResultVar) (mu:List MB) (Out:Gx):KK:=λe T L n F D=>match e with
 | .normal=>Lv X res mu Out .returning T L n F D
 | .ret=>Lv X res mu Out .returning T L n F D
 | .panic ch=>Lv X res mu Out (.panicking ch) T L n F D
 |_=>False
variable {mu:List MB} {res:List ResultVar}
theorem Fg {Out:Gx} (h:Xy X res mu Out T L n F D):Lv X res mu Out .returning T L n F D:=by
 intro a w hr fn hfn;obtain⟨h1,h2⟩:=h a w hr;obtain⟨v,h3,h4⟩:=h2 fn hfn;rw[h1];exact⟨v,h3,h4⟩
theorem Al1 {P:Program} {tab:Tab} {ok:tab.Ok P} {g:Nat} {fn:Func} {body:Code} {args:List Value} {mu:List MB} {F0:List Fact} {Out:Gx} {k:Nat} (us:List TV) (hf:P.funcs[g]? =some fn) (hk:fn.ntmps=k) (hb:fn.body=some body) (hul:Nat.ble us.length k=true)
  (hargs:∀ρ:Nm,(∀i b,(mu.map (·.1))[i]? =some b->ρ i=b)->us.map (TV.den ρ)=args)
  (h:∀w0 A0,sx ⟨P,tab,ok,none,8,k,w0,A0,mu.map (·.1),mu.map (·.1)⟩ body (U8 0 us) (muL 0 mu) mu.length F0 (λ_=>[]) (Aor ⟨P,tab,ok,none,8,k,w0,A0,mu.map (·.1),mu.map (·.1)⟩ fn.results.toList mu Out)):Cm P g args mu F0 Out:=by
 intro A w hnd hmu hA hF;refine(Fz (n:=8)).1 (N7 hf hb trivial ?_ I);rw[hk];have hk2:us.length<=k:=by rwa[G6] at hul
 refine Ht (h w A) _ ?_ _ _ (EQ ⟨I,I,I,I,I⟩ hk2 hnd hmu hA hF hargs);intro e T L n F D hK a w' hr;cases e with
 |normal=>exact hK a w' hr fn I
 |ret=>exact hK a w' hr fn I
 |panic ch=>exact hK a w' hr fn I
 |exit id=>exact hK.elim
 |goto l=>exact hK.elim
 |outgrown=>exact hK.elim
def Jh (P:Program) (g:FuncId):Prop:=∀(n:Nat) (pe:Addr) (K:Nat) (lb:Array Value) (w:World),
 CallsDIn Fence.wide n P g #[.pointer (some pe),.func (.func K) #[] lb] .returning w λe u' w'=>e=.returned (.tuple #[])/\u'=.returning/\w'=w
def Ld (P:Program) (g:FuncId) (tI tE:TypeId):Prop:=∀(n:Nat) (pe:Nat) (K:Nat) (lb:Array Value) (z:Int) (older:List PanicEntry) (w:World) (R:World->Prop),1<=n->Enters P K->
 Calls P K lb w (λe w'=>e=.returned (.tuple #[])/\R w')->(∀w',R w'->∃v,w'.heap[pe]? =some (.cells #[v] tE (0,0)))->
 CallsDIn Fence.wide n P g #[.pointer (some ⟨pe,0,none⟩),.func (.func K) #[] lb] (.panicking ({v:=.iface tI (.int .i64 z),recovered:=false}::older)) w λe u' w'=>
  e=.returned (.tuple #[])/\u'=.panicking ({v:=.iface tI (.int .i64 z),recovered:=true}::older)/\∃w1,R w1/\w'=w1.setCell ⟨pe,0,none⟩ (.int .i64 z)
def S8 (g ke kg:Nat) (ca:List PV) (D:DF):DF:=λρ=> {target:=.fn (.func g) #[],args:= #[.pointer (some ⟨ρ ke,0,none⟩),.func (.func kg) #[] (ca.map (PV.den ρ)).toArray]}::D ρ
theorem Rel.popD {d:Nm->Deferred} {a:Act} {w:World} (h:Rel X T L n F (λρ=>d ρ::D ρ) a w):Rel X T L n F D {a with defers:=a.defers.tail} w:=by
 obtain⟨hkb,ρ0,A,h0⟩:=h;refine⟨hkb,ρ0,A,λρ hρ=>?_⟩;have h1:=h0 ρ hρ;exact⟨⟨h1.tm,h1.lo,h1.a3⟩,h1.sz,by show a.defers.tail=_;rw[h1.df];rfl,h1.kp,h1.nw,h1.ds,h1.a1,h1.a2,h1.mb⟩
variable {ke kg:Nat}
theorem Sp {cl:Call} {f x y:Operand} (hr:X.r=none) (ho:o.op=.defer cl) (hd:o.dst=none) (hc:cl.callee=.value f) (hf:Va T f=some (g,[],[])) (hargs:cl.args.toList=[x,y])
  (hx:evS T x=some (.o (.p ke 0))) (hy:evS T y=some (.o (.f (.func kg) [] ca))) (h:k T L n F (S8 g ke kg ca D)):OJs X o T L n F D k K:=
 OZ (us:=[.o (.p ke 0),.o (.f (.func kg) [] ca)]) hr ho hd hc hf (by rw[hargs];simp only[Rg,hx,hy]) h
def PV.ltn (n:Nat):PV->Bool
 | .v _=>true
 | .p k _=>Nat.blt k n
theorem AZ {cl:Call} {f x y:Operand} (hr:X.r=none) (ho:o.op=.defer cl) (hd:o.dst=none) (hc:cl.callee=.value f) (hf:Va T f=some (g,[],[])) (hargs:cl.args.toList=[x,y])
  (hx:evS T x=some (.o (.p ke 0))) (hy:evS T y=some (.o (.v (.func (.func kg) #[] #[])))) (h:k T L n F (S8 g ke kg [] D)):OJs X o T L n F D k K:=
 OZ (us:=[.o (.p ke 0),.o (.v (.func (.func kg) #[] #[]))]) hr ho hd hc hf (by rw[hargs];simp only[Rg,hx,hy]) h
theorem Acr {m:Nat} {ρ ρ':Nm} (h:∀j,j<m->ρ' j=ρ j) (h1:Nat.blt ke m=true) (h2:ca.all (PV.ltn m)=true) (hD:D ρ'=D ρ):S8 g ke kg ca D ρ'=S8 g ke kg ca D ρ:=by
 unfold S8;rw[h ke (by simpa using h1),hD];have e:ca.map (PV.den ρ')=ca.map (PV.den ρ):=by
  apply Gv;intro x hx;have:=A6.1 h2 x hx;cases x with
  |v x=>rfl
  |p k o=>simp only[PV.ltn,Gr] at this;simp only[PV.den,h k this]
 rw[e]
theorem Lm {Out:Gx} (hg:Jh X.P g) (hE:Enters X.P g) (h:Lv X res mu Out .returning T L n F D):Lv X res mu Out .returning T L n F (S8 g ke kg ca D):=by
 intro a w hr fn hfn;obtain⟨A,ρ,h0⟩:=hr.one;have hd:a.defers=S8 g ke kg ca D ρ:=h0.df;have hp:=h _ w hr.popD fn hfn;rw[hd] at hp⊢;have eK:∀args w,(callFunc g args).run X.P w=.ok (.enter g args) w:=hE;refine⟨tqS,.inr ⟨λhd=>by simp[Fence.wide] at hd,_,_,g,#[.pointer (some ⟨ρ ke,0,none⟩),.func (.func kg) #[] (ca.map (PV.den ρ)).toArray],I,by simp[invoke,eK],λ_ _=>trivial,?_⟩⟩
 ·refine Xx (hg 7 _ kg _ w) ?_;rintro e u' w' ⟨rfl,rfl,rfl⟩;exact hp
theorem HU {w:World} {b:Nat} {v0 v:Value} {t:TypeId} {fr:Nat×Nat} (h:w.heap[b]? =some (.cells #[v0] t fr)):w.setCell ⟨b,0,none⟩ v=w.setRow b #[v]:=by
 unfold World.setCell World.setRow
 congr 1
 apply Array.ext_getElem?;intro i;rw[Array.getElem?_modify,Array.getElem?_modify];split
 ·rename_i e;subst e;rw[h];simp
 ·rfl
theorem Rb {Out:Gx} {z:Int} {tI tE:TypeId} {ls:List (Nat×List SV×TypeId)} {v0:SV} {css:List (List Value)} (mk:List Nat) (hg:Ld X.P g tI tE) (hE:Enters X.P g) (hEk:Enters X.P kg)
  (hmu:W4 L mk=some ls) (hnd:mk.Nodup) (ct:∀ρ,Cm X.P kg (ca.map (PV.den ρ)) (Mh ρ ls) [] λe cs F1=>e=.returned (.tuple #[])/\cs=css/\F1=[])
  (hke:Ah (Q8 ls css L) ke=some (.c [v0] tE)) (h:Lv X res mu Out .returning T ((ke,.c [.v (.int .i64 z)] tE)::Q8 ls css L) n F D):
  Lv X res mu Out (.panicking [{v:=.iface tI (.int .i64 z),recovered:=false}]) T L n F (S8 g ke kg ca D):=by
 intro a w hr fn hfn;obtain⟨A,ρ,h0,hC⟩:=UR (X:=X) (fi:=[]) (us:=[]) (ca:=ca) (rk:=[]) (mk:=mk) (ro:=[]) (F0:=[]) hr I hmu (by simpa using hnd) (λρ=>by simpa [Gn,Mh] using ct ρ) tqS (.inl I);have hd:a.defers=S8 g ke kg ca D ρ:=h0.df;rw[hd];have eK:∀args w,(callFunc g args).run X.P w=.ok (.enter g args) w:=hE;refine⟨tqS,.inr ⟨λhd=>by simp[Fence.wide] at hd,_,_,g,#[.pointer (some ⟨ρ ke,0,none⟩),.func (.func kg) #[] (ca.map (PV.den ρ)).toArray],I,by simp[invoke,eK],λ_ _=>trivial,?_⟩⟩;have hC2:Calls X.P kg (ca.map (PV.den ρ)).toArray w λe w'=>e=.returned (.tuple #[])/\Rel X T (Q8 ls css L) n F (S8 g ke kg ca D) a w':=by
  refine Calls.mono (by simpa [Gn] using hC) ?_;rintro e w' ⟨cs,F1,_,⟨rfl,rfl,rfl⟩,hr'⟩;exact⟨I,by simpa using hr'⟩
 have hb:∀w',Rel X T (Q8 ls css L) n F (S8 g ke kg ca D) a w'->∀A ρ',Rel0 X T (Q8 ls css L) F (S8 g ke kg ca D) A ρ' a w'->ρ' ke=ρ ke:=by
  intro w' _ A' ρ' h1;have e1:=h1.df;rw[h0.df] at e1;simp only[S8,Q7,Deferred.mk.injEq] at e1;have:=e1.1.2;simp at this;exact this.1.symm
 refine Xx (hg 7 (ρ ke) kg _ z [] w _ tqO hEk hC2 ?_) ?_
 ·intro w' hr';obtain⟨A',ρ',h1⟩:=hr'.one;have:=h1.lo ke _ hke;rw[<-hb w' hr' A' ρ' h1];exact⟨_,this⟩
 ·rintro e u' w' ⟨rfl,rfl,w1,hr1,rfl⟩;have hr2:Rel X T ((ke,.c [.v (.int .i64 z)] tE)::Q8 ls css L) n F (S8 g ke kg ca D) a (w1.setCell ⟨ρ ke,0,none⟩ (.int .i64 z)):=by
   refine hr1.setRow hke λA' ρ' h1=>?_;have e1:=hb w1 hr1 A' ρ' h1;have:=h1.lo ke _ hke;simp only[LC.holds,C4,Bj,E4] at this;rw[<-e1,HU this];rfl
  have hp:=h _ _ hr2.popD fn hfn;rw[hd] at hp;exact hp
end
section
variable {X:Fx} {ops l:List Oper} {o:Oper} {T:TE} {L:LE} {n:Nat} {F:List Fact} {D:DF} {K:KK} {k:KS} {c:Code}
theorem Dj {res:List ResultVar} {mu:List MB} {Out:Gx} {σ:Sg} (hw:Wk X T L n F D σ) (h:Xy X res mu Out σ.T σ.L σ.n σ.F σ.D):Xy X res mu Out T L n F D:=λa w hr=>h a w (hw a w hr)
theorem Aow {cs:List Value} {t:TypeId} {m:Nat}:(LC.c (cs.map SV.v) t).lt' m=true:=by
 simp only[LC.lt',List.all_map,A6];intro x _;rfl
theorem Rel.reL {L':LE} {a:Act} {w:World} (h:Rel X T L n F D a w) (hL:∀k e,Ah L' k=some e->∃e0,Ah L k=some e0/\(∀ρ,e.blk ρ k=e0.blk ρ k)/\∀ρ,e0.holds ρ k w->e.holds ρ k w):Rel X T L' n F D a w:=by
 obtain⟨hkb,ρ0,A,h0⟩:=h;refine⟨λk e hk=>?_,ρ0,A,λρ hρ=>?_⟩
 ·obtain⟨e0,h1,_⟩:=hL k e hk;exact hkb k e0 h1
 have h1:=h0 ρ hρ;refine⟨⟨h1.tm,λk e hk=>?_,h1.a3⟩,h1.sz,h1.df,h1.kp,λk e b hk hb=>?_,λk k' e e' b hk hk' hb hb'=>?_,h1.a1,λb hb=>⟨(h1.a2 b hb).1,λk e hk hbk=>?_⟩,h1.mb⟩
 ·obtain⟨e0,h2,_,h4⟩:=hL k e hk;exact h4 ρ (h1.lo k e0 h2)
 ·obtain⟨e0,h2,h3,_⟩:=hL k e hk;exact h1.nw k e0 b h2 (by rw[<-h3];exact hb)
 ·obtain⟨e0,h2,h3,_⟩:=hL k e hk;obtain⟨e1,h4,h5,_⟩:=hL k' e' hk';exact h1.ds k k' e0 e1 b h2 h4 (by rw[<-h3];exact hb) (by rw[<-h5];exact hb')
 ·obtain⟨e0,h2,h3,_⟩:=hL k e hk;exact(h1.a2 b hb).2 k e0 h2 (by rw[<-h3];exact hbk)
def D9 (hs:List Value) (t:TypeId):LC:=.obj (.cells hs.toArray t (0,0))
theorem OA {j:Nat} {e e0:LC} (hj:Ah L j=some e0):∀k e',Ah ((j,e)::L) k=some e'->∃e1,Ah L k=some e1/\(k=j/\e'=e/\e1=e0\/k≠j/\e'=e1):=by
 intro k e' hk;rw[As] at hk;split at hk
 ·rename_i ek;cases hk;subst ek;exact⟨e0,hj,.inl ⟨I,I,I⟩⟩
 ·rename_i ek;exact⟨e',hk,.inr ⟨ek,I⟩⟩
theorem Rel.c2o {j:Nat} {hs:List Value} {t:TypeId} {a:Act} {w:World} (h:Rel X T L n F D a w) (hj:Ah L j=some (.c (hs.map SV.v) t)):Rel X T ((j,D9 hs t)::L) n F D a w:=by
 refine h.reL λk e' hk=>?_;obtain⟨e1,h1,⟨rfl,rfl,rfl⟩|⟨_,rfl⟩⟩:=OA hj k e' hk
 ·exact⟨_,h1,λ_=>I,λρ h=>by simp only[LC.holds,Ji] at h;exact h⟩
 ·exact⟨_,h1,λ_=>I,λρ h=>h⟩
theorem Rel.o2c {j:Nat} {hs:List Value} {t:TypeId} {a:Act} {w:World} (h:Rel X T L n F D a w) (hj:Ah L j=some (D9 hs t)):Rel X T ((j,.c (hs.map SV.v) t)::L) n F D a w:=by
 refine h.reL λk e' hk=>?_;obtain⟨e1,h1,⟨rfl,rfl,rfl⟩|⟨_,rfl⟩⟩:=OA hj k e' hk
 ·exact⟨_,h1,λ_=>I,λρ h=>by simp only[LC.holds,Ji];exact h⟩
 ·exact⟨_,h1,λ_=>I,λρ h=>h⟩
theorem Wk.trans {σ τ:Sg} (h:Wk X T L n F D σ) (k:Wk X σ.T σ.L σ.n σ.F σ.D τ):Wk X T L n F D τ:=λa w hr=>k a w (h a w hr)
end
structure Chg (O:Nat->Prop) (V V':World):Prop extends Grow V V' where
 keep:∀b,b<V.heap.size->¬O b->V'.heap[b]? =V.heap[b]?
def P6 (O:Nat->Prop) (V V':World):Nat->Prop:=λb=>O b\/(V.heap.size<=b/\b<V'.heap.size)
structure Keep (B:Nat->Prop) (V V':World):Prop extends Grow V V' where
 keep:∀b,b<V.heap.size->B b->V'.heap[b]? =V.heap[b]?
structure It (P:Program) {α:Type} (enc:α->List Value) (xs:List α) where
 n:Nat
 l:Nat
 A:Nat->Prop
 J:Nat->(Nat->Prop)->World->Prop
 Jx:Nat->(Nat->Prop)->World->Prop
 W:World
 hJ:∀k O V V',J k O V->Chg O V V'->J k (P6 O V V') V'
 hJx:∀k O V V',Jx k O V->Chg O V V'->Jx k (P6 O V V') V'
 hY:∀k x O V,xs[k]? =some x->J k O V->W.heap.size<=V.heap.size->(∀b,O b->W.heap.size<=b/\b<V.heap.size)->YieldAt Fence.wide (n- 1) P l (enc x).toArray V λe V'=>
  (e=.returned (.bool true)/\J (k+1) O V'/\Keep (λb=>A b\/O b) V V')\/(e=.returned (.bool false)/\Jx (k+1) O V'/\Keep O V V')
section
variable {P:Program} {α:Type} {enc:α->List Value} {xs:List α}
def It.post (S:It P enc xs):Ending->World->Prop:=λe W'=>(∃v,e=.returned v)/\((∃O,S.J xs.length O W')\/∃k O,S.Jx k O W'/\0<k/\k<=xs.length)
def Y2 (P:Program) (gf:FuncId) (lb:List Value) (F0:List Fact) (enc:α->List Value) (xs:List α):Prop:=
 ∀S:It P enc xs,(∀b,S.A b->b<S.W.heap.size)->(∀f∈F0,f.h S.A S.W)->S.J 0 (λ_=>False) S.W->CallsIn Fence.wide S.n P gf (#[.func (.yield S.l) #[] #[]]++lb.toArray) S.W S.post
def Aah (m:Nat) (J:(Nat->Prop)->World->Prop) (hJ:∀O V V',J O V->Chg O V V'->J (P6 O V V') V'):Fact where
 h A w:=m<=w.heap.size/\∃O,J O w/\(∀b,O b->m<=b/\b<w.heap.size)/\∀b,b<w.heap.size->O b\/A b
 ok:=by
  rintro A A' w w' hA hw hg ⟨h1,O,h2,h3,h4⟩;refine⟨Bf h1 hg.size,P6 O w w',hJ O w w' h2 ⟨hg,λb hb hO=>hw b ((h4 b hb).resolve_left hO)⟩,?_,?_⟩
  ·rintro b (hb|hb)
   ·exact⟨(h3 b hb).1,Aw (h3 b hb).2 hg.size⟩
   ·omega
  ·intro b hb;by_cases hlt:b<w.heap.size
   ·rcases h4 b hlt with h|h
    ·exact .inl (.inl h)
    ·exact .inr (hA b h)
   ·exact .inl (.inr ⟨tqO,hb⟩)
def It.jF (S:It P enc xs) (k:Nat):Fact:=Aah S.W.heap.size (S.J k) (S.hJ k)
def It.jxF (S:It P enc xs) (k:Nat):Fact:=Aah S.W.heap.size (S.Jx k) (S.hJx k)
def It.inF (S:It P enc xs) (f:Fact):Fact where
 h A w:=(∀b,S.A b->A b)/\f.h S.A w
 ok:=λhA hw hg h=>⟨λb hb=>hA b (h.1 b hb),f.ok (λ_ h=>h) (λb hb=>hw b (h.1 b hb)) hg h.2⟩
def It.X (S:It P enc xs) (tab:Tab) (ok:tab.Ok P) (k:Nat):Fx:=⟨P,tab,ok,none,S.n,k,S.W,λb=>b<S.W.heap.size,List.range S.W.heap.size,[]⟩
def LvR (X:Fx) (nn:Nat) (R:Ending->World->Prop) (res:List ResultVar) (u:FrameMode) (T:TE) (L:LE) (n:Nat) (F:List Fact) (D:DF):Prop:=
 ∀a w,Rel X T L n F D a w->∀fn:Func,fn.results.toList=res->LeavesInM Fence.wide nn X.P fn a.tmps R a.defers u w
variable {F:List Fact} {res:List ResultVar}
theorem Yb {X:Fx} {mu:List MB} {Out:Gx} {u:FrameMode} {T:TE} {L:LE} {n:Nat} {D:DF} (h:LvR X 8 (Res X.w0 X.A0 mu Out) res u T L n F D):Lv X res mu Out u T L n F D:=h
def It.endK (S:It P enc xs) (X:Fx) (res:List ResultVar):KK:=λe T L n F D=>match e with
 | .normal=>LvR X S.n S.post res .returning T L n F D
 | .ret=>LvR X S.n S.post res .returning T L n F D
 |_=>False
variable {S:It P enc xs} {us:List TV}
theorem Og {X:Fx} {T:TE} {L:LE} {n:Nat} {D:DF} (h:S.jF xs.length∈F) (hD:D=λ_=>[]) (hres:Vs X.tab T L res=some us):LvR X S.n S.post res .returning T L n F D:=by
 intro a w hr fn hfn;obtain⟨A,ρ,h0⟩:=hr.one;rw[h0.df,hD];obtain⟨_,O,h2,_⟩:=h0.a3 _ h;exact⟨Uo ρ us,Mj h0.toVw (by rw[hfn];exact hres),⟨_,I⟩,.inl ⟨O,h2⟩⟩
theorem Px {X:Fx} {T:TE} {L:LE} {n:Nat} {D:DF} (k:Nat) (h:S.jxF k∈F) (hk:0<k) (hk2:k<=xs.length) (hD:D=λ_=>[]) (hres:Vs X.tab T L res=some us):LvR X S.n S.post res .returning T L n F D:=by
 intro a w hr fn hfn;obtain⟨A,ρ,h0⟩:=hr.one;rw[h0.df,hD];obtain⟨_,O,h2,_⟩:=h0.a3 _ h;exact⟨Uo ρ us,Mj h0.toVw (by rw[hfn];exact hres),⟨_,I⟩,.inr ⟨k,O,h2,hk,hk2⟩⟩
theorem Xs {tab:Tab} {ok:tab.Ok P} {gf:Nat} {fn:Func} {body:Code} {lb:List Value} {F0:List Fact} {k:Nat} (us:List TV) (hf:P.funcs[gf]? =some fn) (hk:fn.ntmps=k) (hb:fn.body=some body) (hul:Nat.ble (us.length+1) k=true) (hargs:∀ρ,us.map (TV.den ρ)=lb)
  (h:∀S:It P enc xs,sx (S.X tab ok k) body (U8 0 (.o (.v (.func (.yield S.l) #[] #[]))::us)) [] 0 (S.jF 0::F0.map S.inF) (λ_=>[]) (S.endK (S.X tab ok k) fn.results.toList)):Y2 P gf lb F0 enc xs:=by
 intro S hA hF h0;refine N7 hf hb trivial ?_ I;rw[hk];have hk2:us.length+1<=k:=by rwa[G6] at hul
 have hll:lb.length=us.length:=by rw[<-hargs λ_=>0];simp
 refine Ht (h S) _ ?_ _ _ ?_
 ·intro e T L n F D hK a w' hr;cases e with
  |normal=>exact hK a w' hr fn I
  |ret=>exact hK a w' hr fn I
  |panic ch=>exact hK.elim
  |exit id=>exact hK.elim
  |goto l=>exact hK.elim
  |outgrown=>exact hK.elim
 ·refine⟨λk e hk=>(by cases hk),λ_=>0,λb=>b<S.W.heap.size,λρ _=>⟨⟨?_,λk e hk=>(by cases hk),?_⟩,by simp[It.X];omega,I,Kp.refl _ _,λk e b hk=>(by cases hk),λk k' e e' b hk=>(by cases hk),λb hb=>.inl hb,λb hb=>⟨hb,λk e hk=>(by cases hk)⟩,λi b hi=>(by cases hi)⟩⟩
  ·intro t x hx;obtain⟨j,rfl,hj⟩:=Rh hx;rw[Bl];have e:(#[Value.func (.yield S.l) #[] #[]]++lb.toArray)=((.o (.v (.func (.yield S.l) #[] #[]))::us).map (TV.den ρ)).toArray:=by
    rw[Bj,hargs ρ];simp[TV.den,SV.den]
   rw[e,Bp,Iq (by simp;have:=(Aa.1 hj).1;simpa using this)];rw[Ic,Cq,hj];rfl
  ·intro f hf;rcases Ap.1 hf with rfl|hf
   ·exact⟨Ak _,_,h0,λ_ h=>h.elim,λb hb=>.inr hb⟩
   ·obtain⟨f0,hf0,rfl⟩:=Cd.1 hf;exact⟨hA,hF f0 hf0⟩
theorem Rz {tab:Tab} {ok:tab.Ok P} {kk:Nat} {o:Oper} {T:TE} {L:LE} {n:Nat} {D:DF} {kq:KS} {K:KK} {cl:Call} {f:Operand} {x:α} (k:Nat) (fs:List Fact) (ho:o.op=.call cl) (hc:cl.callee=.value f) (hf:evS T f=some (.o (.v (.func (.yield S.l) #[] #[]))))
  (hus:Rg T cl.args.toList=some us) (hx:xs[k]? =some x) (henc:∀ρ,us.map (TV.den ρ)=enc x) (hj:S.jF k∈F) (hfs:∀f∈fs,S.inF f∈F)
  (h1:match E7 kk o.dst (.o (.v (.bool true))) T with|some T'=>kq T' L n (S.jF (k+1)::fs.map S.inF) D|none=>False)
  (h2:match E7 kk o.dst (.o (.v (.bool false))) T with|some T'=>kq T' L n [S.jxF (k+1)] D|none=>False):OJs (S.X tab ok kk) o T L n F D kq K:=by
 intro Q hQ Φ hΦ a w hr;obtain⟨hkb,ρ0,A,hr0⟩:=hr;have h0:=hr0 ρ0 λ_ _=>I;obtain⟨hm,O,hJ,hO,hcov⟩:=h0.a3 _ hj;obtain⟨fn',tmps',as',bd',hy,hR⟩:=S.hY k x O w hx hJ hm hO;have e1:=Y3 h0.toVw hus;have e2:cl.args.map a.eval=(enc x).toArray:=by apply Cn;rw[Di,e1,henc]
 have e3:=h0.ev hf;simp only[TV.den,SV.den] at e3;have run:(execOp a.eval o).run P w=.ok (.round S.l fn' tmps' as' bd') w:=by
  simp[execOp,ho,resolve,hc,e3,Deferred.ofValue,invoke,e2,hy]
 have own:∀k e b,Ah L k=some e->e.blk ρ0 k=some b->O b/\b<w.heap.size:=by
  intro k e b hk hb;have hlt:=LC.lt (h0.lo k e hk) hb;rcases hcov b hlt with h|h
  ·exact⟨h,hlt⟩
  ·exact absurd hb ((h0.a2 b h).2 k e hk)
 have gen:∀(V':World) (Fn:List Fact) (v:Value) (T':TE),Keep O w V'->E7 kk o.dst (.o (.v v)) T=some T'->(∀f∈Fn,f.h (λb=>b<V'.heap.size/\∀k e,Ah L k=some e->e.blk ρ0 k≠some b) V')->
   Rel (S.X tab ok kk) T' L n Fn D (a.put o.dst v) V':=by
  intro V' Fn v T' hK hp hFn;refine Rel.put (T:=T) (u:=.o (.v v)) ⟨hkb,ρ0,λb=>b<V'.heap.size/\∀k e,Ah L k=some e->e.blk ρ0 k≠some b,λρ hρ=>?_⟩ (λ_ _ _=>I) hp;have h3:=hr0 ρ hρ;have bk:∀k e b,Ah L k=some e->e.blk ρ k=some b->e.blk ρ0 k=some b:=λk e b hk hb=>by rw[<-LC.blk_congr (hρ k (hkb k e hk))];exact hb
  refine⟨⟨h3.tm,λk e hk=>LC.keep (w:=w) (h3.lo k e hk) λb hb=>?_,hFn⟩,h3.sz,h3.df,⟨hK.os.trans h3.kp.os,hK.tape.trans h3.kp.tape,hK.output.trans h3.kp.output,Bf h3.kp.size hK.size,λb hb hm=>?_⟩,h3.nw,h3.ds,λb hb=>?_,λb hb=>⟨hb.1,λk e hk hbk=>hb.2 k e hk (bk k e b hk hbk)⟩,h3.mb⟩
  ·obtain⟨g1,g2⟩:=own k e b hk (bk k e b hk hb);exact hK.keep b g2 g1
  ·exact absurd (Hc.2 hb) hm
  ·by_cases hlt:b<S.W.heap.size
   ·exact .inl hlt
   ·exact .inr (Uc hlt)
 refine Oper.wpIn_of_run (by simp[Cw,ho]) ?_;show o.uponIn _ _ _ _ _ _ ((execOp a.eval o).run P w)
 rw[run];refine⟨λhd=>by simp[Fx.fe,Fence.wide] at hd,hR.mono ?_⟩;rintro e V' (⟨rfl,hJ',hK⟩|⟨rfl,hJ',hK⟩)
 ·split at h1
  ·rename_i T' hp;refine hΦ _ _ _ _ _ h1 _ V' (gen V' _ _ T' ⟨hK.toGrow,λb hb hO=>hK.keep b hb (.inr hO)⟩ hp ?_);intro f hf;rcases Ap.1 hf with rfl|hf
   ·refine⟨Bf hm hK.size,O,hJ',λb hb=>⟨(hO b hb).1,Aw (hO b hb).2 hK.size⟩,λb hb=>?_⟩;by_cases hob:O b
    ·exact .inl hob
    ·exact .inr ⟨hb,λk e hk hbk=>hob (own k e b hk hbk).1⟩
   ·obtain⟨f0,hf0,rfl⟩:=Cd.1 hf;obtain⟨g1,g2⟩:=h0.a3 _ (hfs f0 hf0);refine⟨λb hb=>⟨Aw (h0.a2 b (g1 b hb)).1 hK.size,λk e hk hbk=>(h0.a2 b (g1 b hb)).2 k e hk hbk⟩,f0.ok (w:=w) (λ_ h=>h) (λb hb=>hK.keep b (h0.a2 b (g1 b hb)).1 (.inl hb)) hK.toGrow g2⟩
  ·exact h1.elim
 ·split at h2
  ·rename_i T' hp;refine hΦ _ _ _ _ _ h2 _ V' (gen V' _ _ T' hK hp ?_);intro f hf;cases Bc.1 hf;refine⟨Bf hm hK.size,O,hJ',λb hb=>⟨(hO b hb).1,Aw (hO b hb).2 hK.size⟩,λb hb=>?_⟩;by_cases hob:O b
   ·exact .inl hob
   ·exact .inr ⟨hb,λk e hk hbk=>hob (own k e b hk hbk).1⟩
  ·exact h2.elim
end
section
variable {X:Fx} {T:TE} {L:LE} {n:Nat} {F:List Fact} {D:DF} {K:KK}
def Rt (X:Fx) (r:Option Nat) (nn:Nat) (w:World) (A:Nat->Prop) (M N:List Nat):Fx:=⟨X.P,X.tab,X.ok,r,nn,X.k,w,A,M,N⟩
structure Anc (X:Fx) (A:Nat->Prop) (w:World) (M:List Nat):Prop where
 a:∀b,A b->X.A0 b\/X.w0.heap.size<=b
 m:∀b∈M,b∈X.M\/X.w0.heap.size<=b
 kp:Kp X.M X.w0 w
theorem Anc.step {A1 A2:Nat->Prop} {w1 w2:World} {M1 M2:List Nat} (h:Anc X A1 w1 M1) (ha:∀b,A2 b->A1 b\/w1.heap.size<=b) (hm:∀b∈M2,b∈M1\/w1.heap.size<=b) (hk:Kp M1 w1 w2):Anc X A2 w2 M2:=by
 refine⟨λb hb=>?_,λb hb=>?_,?_⟩
 ·rcases ha b hb with h1|h1
  ·exact h.a b h1
  ·exact .inr (Bf h.kp.size h1)
 ·rcases hm b hb with h1|h1
  ·exact h.m b h1
  ·exact .inr (Bf h.kp.size h1)
 ·refine⟨hk.os.trans h.kp.os,hk.tape.trans h.kp.tape,hk.output.trans h.kp.output,Bf h.kp.size hk.size,λb hb hbm=>?_⟩;rw[hk.keep b (Aw hb h.kp.size) λh1=>?_]
  ·exact h.kp.keep b hb hbm
  ·rcases h.m b h1 with h2|h2
   ·exact hbm h2
   ·omega
variable {w:World}
theorem Anc.z {A:Nat->Prop} {w':World} {M:List Nat} {Z:Nat->Prop} (h:Anc X A w M) (hg:Grow w w') (hz:∀b,Z b->X.w0.heap.size<=b) (hw:∀b,b<w.heap.size->¬Z b->w'.heap[b]? =w.heap[b]?):Anc X A w' M:=
 ⟨h.a,h.m,⟨hg.os.trans h.kp.os,hg.tape.trans h.kp.tape,hg.output.trans h.kp.output,Bf h.kp.size hg.size,λb hb hbm=>(hw b (Aw hb h.kp.size) λhz'=>by have:=hz b hz';omega).trans (h.kp.keep b hb hbm)⟩⟩
variable {a:Act}
open Classical in
theorem Rel.root {w':World} (h:Rel X T L n F D a w) {n0:Nat} (hn0:n0<=n) (Z:Nat->Prop) (hZ:∀b,Z b->¬X.A0 b/\b ∉ X.M/\b<X.w0.heap.size) (hg:Grow w w') (hw:∀b,b<w.heap.size->¬Z b->w'.heap[b]? =w.heap[b]?) (r:Option Nat) (nn:Nat):
  ∃(A:Nat->Prop) (M N:List Nat),N.length=n0/\(∀i b,i<n0->X.N[i]? =some b->N[i]? =some b)/\(∀b,Z b->¬A b/\b ∉ M)/\(∀b,A b->X.A0 b\/X.w0.heap.size<=b)/\(∀b∈M,b∈X.M\/X.w0.heap.size<=b)/\(∀b,A b->b<w.heap.size)/\(∀b∈M,b<w.heap.size)/\
   (∀b,A b->b ∉ M)/\(∀f∈F,f.h A w')/\Rel (Rt X r nn w' A M N) T L n F D a w':=by
 obtain⟨hkb,ρ0,A,h0⟩:=h;have h1:=h0 ρ0 λ_ _=>I;have nz:∀k e b,Ah L k=some e->e.blk ρ0 k=some b->¬Z b:=by
  intro k e b hk hb hz;obtain⟨_,z2,z3⟩:=hZ b hz;rcases h1.nw k e b hk hb with h|h
  ·exact z2 h
  ·omega
 have az:∀b,A b->¬Z b:=by
  intro b hb hz;obtain⟨z1,_,z3⟩:=hZ b hz;rcases h1.a1 b hb with h|h
  ·exact z1 h
  ·omega
 let M:=(List.range w.heap.size).filter λb=>decide (∃k e,Ah L k=some e/\e.blk ρ0 k=some b)
 have hM:∀b,b∈M↔b<w.heap.size/\∃k e,Ah L k=some e/\e.blk ρ0 k=some b:=by
  intro b;simp only[M,De,Hc,Aq]
 have hF:∀f∈F,f.h A w':=λf hf=>f.ok (w:=w) (λ_ h=>h) (λb hb=>hw b (h1.a2 b hb).1 (az b hb)) hg (h1.a3 f hf);refine⟨A,M,(List.range n0).map ρ0,tqS,λi b hi hb=>?_,λb hz=>⟨λhb=>az b hb hz,λhb=>?_⟩,h1.a1,λb hb=>?_,λb hb=>(h1.a2 b hb).1,λb hb=>((hM b).1 hb).1,λb hb hbm=>?_,hF,hkb,ρ0,A,λρ hρ=>?_⟩
 ·rw[Cq,Q1 hi,Gf,h1.mb i b hb]
 ·obtain⟨_,k,e,hk,hkb'⟩:=(hM b).1 hb;exact nz k e b hk hkb' hz
 ·obtain⟨_,k,e,hk,hkb'⟩:=(hM b).1 hb;exact h1.nw k e b hk hkb'
 ·obtain⟨_,k,e,hk,hkb'⟩:=(hM b).1 hbm;exact(h1.a2 b hb).2 k e hk hkb'
 ·have h2:=h0 ρ hρ;have bk:∀k e b,Ah L k=some e->e.blk ρ k=some b->e.blk ρ0 k=some b:=λk e b hk hb=>by rw[<-LC.blk_congr (hρ k (hkb k e hk))];exact hb
  refine⟨⟨h2.tm,λk e hk=>LC.keep (w:=w) (h2.lo k e hk) λb hb=>hw b (LC.lt (h2.lo k e hk) hb) (nz k e b hk (bk k e b hk hb)),hF⟩,h2.sz,h2.df,Kp.refl _ _,λk e b hk hb=>.inl ((hM b).2 ⟨LC.lt (h2.lo k e hk) hb,k,e,hk,bk k e b hk hb⟩),h2.ds,λb hb=>.inl hb,λb hb=>⟨Aw (h2.a2 b hb).1 hg.size,(h2.a2 b hb).2⟩,λi b hi=>?_⟩;simp only[Rt,Cq,Dn] at hi;obtain⟨j,hj,rfl⟩:=hi;obtain⟨g1,g2⟩:=Aa.1 hj;simp at g1 g2;subst g2;exact hρ i tqO
def TW:List Nat->List Value->TE->TE
 |p::ps,v::vs,T=>TW ps vs ((p,.o (.v v))::T)
 |_,_,T=>T
theorem HT {w:World}:∀(ps:List Nat) (vs:List Value) {T:TE} {a:Act},(ps.all λp=>Nat.blt p X.k)=true->Rel X T L n F D a w->Rel X (TW ps vs T) L n F D {a with tmps:=(ps.zip vs).foldl (λt (p,v)=>t.setIfInBounds p v) a.tmps} w
 | [],vs,T,a,_,h=>by cases vs<;>exact h
 |p::ps,[],T,a,_,h=>h
 |p::ps,v::vs,T,a,hp,h=>by
  simp only[Xz,Ad] at hp;have:=HT ps vs (a:=a.put (some p) v) hp.2 (h.put (u:=.o (.v v)) (d:=some p) (T':=(p,.o (.v v))::T) (λ_ _ _=>I) (by simp only[E7,hp.1,Ci]));exact this
theorem Rel.noD (h:Rel X T L n F D a w):Rel X T L n F (λ_=>[]) {tmps:=a.tmps,defers:=[]} w:=by
 obtain⟨hkb,ρ0,A,h0⟩:=h;refine⟨hkb,ρ0,A,λρ hρ=>?_⟩;have h1:=h0 ρ hρ;exact⟨⟨h1.tm,h1.lo,h1.a3⟩,h1.sz,I,h1.kp,h1.nw,h1.ds,h1.a1,h1.a2,h1.mb⟩
theorem LG {ps:Array Tmp} {vs:List Value} (hp:(ps.toList.all λp=>Nat.blt p X.k)=true) (h:Rel X T L n F D a w):Rel X (TW ps.toList vs T) L n F (λ_=>[]) {tmps:=(ps.zip vs.toArray).foldl (λt (p,v)=>t.setIfInBounds p v) a.tmps,defers:=[]} w:=by
 have:=HT ps.toList vs hp h.noD;rw[<-Array.foldl_toList,Array.toList_zip];exact this
theorem Rel.back {X1:Fx} {L1:LE} {F1:List Fact} {a2:Act} {w1:World} {n':Nat} {L':LE} {F':List Fact} {T2:TE} {D2:DF} (hold:Rel X1 T L1 n F1 D a w1) (hN1:X1.N.length=n) (hk:X1.k=X.k) (h:Rel X T2 L' n' F' D2 a2 w) (hN:∀i b,i<n->X1.N[i]? =some b->X.N[i]? =some b):Rel X T L' n' F' D a w:=by
 obtain⟨hkb,ρ0,A,h0⟩:=h;obtain⟨_,ρ1,A1,h1⟩:=hold;refine⟨hkb,ρ0,A,λρ hρ=>?_⟩;have h2:=h0 ρ hρ;have e:∀j,j<n->ρ j=ρ1 j:=λj hj=>by
  have g:X1.N[j]? =some (X1.N[j]'tqO):=A8 tqO;rw[h2.mb j _ (hN j _ hj g),(h1 ρ1 λ_ _=>I).mb j _ g]
 have h3:=h1 ρ e;exact⟨⟨h3.tm,h2.lo,h2.a3⟩,by rw[h3.sz,hk],h3.df,h2.kp,h2.nw,h2.ds,h2.a1,h2.a2,h2.mb⟩
def Nb (B:Nat):Deferred:= {target:=.collected B,args:= #[]}
def T5:LC:=.obj (.deferred (some []))
theorem Rel.out {r:Option Nat} {nn:Nat} {A:Nat->Prop} {M N:List Nat} {B:Nat} (h:Rel (Rt X r nn w A M N) T L n F D a w) (hA:Anc X A w M) (hN:∀(i b:Nat),X.N[i]? =some b->N[i]? =some b)
  (hB:w.heap[B]? =some (.deferred (some []))) (hB1:¬A B/\B ∉ M) (hB2:X.w0.heap.size<=B):Rel X T ((n,T5)::L) (n+1) F (λρ=>Nb (ρ n)::D ρ) {a with defers:=Nb B::a.defers} w:=by
 obtain⟨hkb,ρ0,A',h0⟩:=h;have hlt:=Dr hB;refine⟨λk e hk=>?_,λj=>if j=n then B else ρ0 j,A',λρ hρ=>?_⟩
 ·rw[As] at hk;split at hk
  ·omega
  ·have:=hkb k e hk;omega
 have hn:ρ n=B:=by simpa using hρ n tqO
 have hl:∀j,j<n->ρ j=ρ0 j:=λj hj=>by simpa [Km hj] using hρ j tqO
 have h1:=h0 ρ hl;have nB:∀k e,Ah L k=some e->e.blk ρ k≠some B:=by
  intro k e hk hb;rcases h1.nw k e B hk hb with h|h
  ·exact hB1.2 h
  ·have:w.heap.size<=B:=h;omega
 have aB:¬A' B:=by
  intro hb;rcases h1.a1 B hb with h|h
  ·exact hB1.1 h
  ·have:w.heap.size<=B:=h;omega
 have bl:∀k e b,Ah ((n,T5)::L) k=some e->e.blk ρ k=some b->(k=n/\b=B)\/(k≠n/\Ah L k=some e):=by
  intro k e b hk hb;rw[As] at hk;split at hk
  ·rename_i ek;cases hk;subst ek;simp only[T5,LC.blk,B7,hn] at hb;exact .inl ⟨I,hb.symm⟩
  ·rename_i ek;exact .inr ⟨ek,hk⟩
 have own:∀k e b,Ah L k=some e->e.blk ρ k=some b->b∈X.M\/X.w0.heap.size<=b:=by
  intro k e b hk hb;rcases h1.nw k e b hk hb with h|h
  ·exact hA.m b h
  ·exact .inr (Bf hA.kp.size h)
 refine⟨⟨h1.tm,λk e hk=>?_,h1.a3⟩,h1.sz,by show Nb B::a.defers=_;rw[hn,h1.df],hA.kp,λk e b hk hb=>?_,λk1 k2 f1 f2 b hk1 hk2 hb1 hb2=>?_,λb hb=>?_,λb hb=>⟨(h1.a2 b hb).1,λk e hk hbk=>?_⟩,λi b hi=>?_⟩
 ·rw[As] at hk;split at hk
  ·rename_i ek;cases hk;subst ek;show w.heap[ρ k]? =_
   rw[hn];exact hB
  ·exact h1.lo k e hk
 ·rcases bl k e b hk hb with ⟨_,rfl⟩|⟨_,h2⟩
  ·exact .inr hB2
  ·exact own k e b h2 hb
 ·rcases bl k1 f1 b hk1 hb1 with ⟨rfl,rfl⟩|⟨_,h2⟩<;>rcases bl k2 f2 _ hk2 hb2 with ⟨rfl,h5⟩|⟨_,h3⟩
  ·rfl
  ·exact absurd hb2 (nB k2 f2 h3)
  ·subst h5;exact absurd hb1 (nB k1 f1 h2)
  ·exact h1.ds k1 k2 f1 f2 b h2 h3 hb1 hb2
 ·rcases h1.a1 b hb with h|h
  ·exact hA.a b h
  ·exact .inr (Bf hA.kp.size h)
 ·rcases bl k e b hk hbk with ⟨_,rfl⟩|⟨_,h2⟩
  ·exact aB hb
  ·exact(h1.a2 b hb).2 k e h2 hbk
 ·exact h1.mb i b (hN i b hi)
end
section
variable {X:Fx} {T:TE} {L:LE} {n:Nat} {F:List Fact} {D:DF} {K:KK}
def VB (X:Fx) (T:TE) (D:DF) (K:KK) (c:Code) (n:Nat) (L':LE) (n':Nat) (F':List Fact):Prop:=
 Nat.ble n n'=true/\sx X c T ((n',T5)::L') (n'+1) F' (λρ=>Nb (ρ n')::D ρ) K
def Aoz (X Xr:Fx) {γ:Type} (p:Nat->γ->Prop) (σ:Nat->γ->LE×List Fact) (T:TE) (D:DF) (K:KK) (n k:Nat):KK:=λe T' L' n' F' D'=>match e with
 | .normal=>∃g,p (k+1) g/\Wk Xr T' L' n' F' D' ⟨[],(σ (k+1) g).1,n,(σ (k+1) g).2,λ_=>[]⟩
 | .ret=>VB X T D K .ret n L' n' F'
 | .exit id=>VB X T D K (.exit id) n L' n' F'
 | .goto t=>VB X T D K (.goto t) n L' n' F'
 |_=>False
theorem DG {XE:Fx} {r:Option Nat} {nn:Nat} {V Wa Wb:World} {A:Nat->Prop} {M N:List Nat} {a:Act} {Z:Nat->Prop} {n0:Nat} (h:Rel (Rt X r nn V A M N) T L n F D a Wa) (hn:n0<=n) (hanc:Anc XE A V M) (hZ:∀b,Z b->(¬A b/\b ∉ M)/\b<V.heap.size) (hZE:∀b,Z b->XE.w0.heap.size<=b)
  (hg:Grow Wa Wb) (hw:∀b,b<Wa.heap.size->¬Z b->Wb.heap[b]? =Wa.heap[b]?) (r':Option Nat) (nn':Nat):
  ∃(A2:Nat->Prop) (M2 N2:List Nat),N2.length=n0/\(∀i b,i<n0->N[i]? =some b->N2[i]? =some b)/\Anc XE A2 Wb M2/\(∀b,Z b->¬A2 b/\b ∉ M2)/\(∀b,A2 b->b<Wa.heap.size)/\(∀b∈M2,b<Wa.heap.size)/\Rel (Rt X r' nn' Wb A2 M2 N2) T L n F D a Wb/\Kp M V Wa:=by
 obtain⟨A0,ρ0,h0⟩:=h.one;obtain⟨A2,M2,N2,h1,h2,h3,h4,h5,h6,h7,_,_,h8⟩:=h.root hn Z (λb hz=>⟨(hZ b hz).1.1,(hZ b hz).1.2,(hZ b hz).2⟩) hg hw r' nn';exact⟨A2,M2,N2,h1,h2,(hanc.step h4 h5 h0.kp).z hg hZE hw,h3,h6,h7,h8,h0.kp⟩
theorem Rk {α γ:Type} {enc:α->List Value} {xs:List α} {gf:Nat} {lb:List Value} {F0:List Fact} {g:Operand} {ps:Array Tmp} {assign body:Code} (p:Nat->γ->Prop) (σ:Nat->γ->LE×List Fact) (g0:γ)
  (hseq:Y2 X.P gf lb F0 enc xs) (hr:X.r=none) (hg:evS T g=some (.o (.v (.func (.func gf) #[] lb.toArray)))) (hfn:Ah X.tab.fn gf=some ()) (hps:∀x,(enc x).length=ps.size) (hpk:(ps.toList.all λp=>Nat.blt p X.k)=true) (hXN:X.N.length<=n)
  (h0:p 0 g0) (hw:Wk X T L n F D ⟨T,(σ 0 g0).1,n,(σ 0 g0).2,D⟩) (hF0:∀f∈F0,f∈(σ 0 g0).2)
  (hround:∀k x gk,xs[k]? =some x->p k gk->∀l w0 A0 M N,N.length=n->sx (Rt X (some l) (X.nn- 1- 1) w0 A0 M N) assign (TW ps.toList (enc x) T) (σ k gk).1 n (σ k gk).2 (λ_=>[]) (λe T' L' n' F' D'=>match e with
   | .normal=>∀w0 A0 M N,N.length=n->Nat.ble n n'=true/\sx (Rt X (some l) (X.nn- 1- 1) w0 A0 M N) body T' L' n' F' D' (Aoz X (Rt X (some l) (X.nn- 1- 1) w0 A0 M N) p σ T D K n k)
   |_=>False))
  (hdone:∀gk,p xs.length gk->K .normal T ((n,T5)::(σ xs.length gk).1) (n+1) (σ xs.length gk).2 λρ=>Nb (ρ n)::D ρ):CJs X (.rangeFunc g ps assign body) T L n F D K:=by
 intro Q hQ a w hr0;have eg':∀args w,(callFunc gf args).run X.P w=.ok (.enter gf args) w:=Qh (X.ok.fn _ _ hfn);have hro:X.fe.round=none:=hr;have hfe:X.fe=Fence.wide:=by unfold Fx.fe;rw[hr];rfl
 rw[hfe];have hr1:Rel X T (σ 0 g0).1 n (σ 0 g0).2 D a w:=hw a w hr0;obtain⟨A',ρ',hev0⟩:=hr1.one;have hgv:a.eval g=.func (.func gf) #[] lb.toArray:=hev0.ev hg;have hszw:X.w0.heap.size<=w.heap.size:=hev0.kp.size;obtain⟨Ae,Me,Ne,hNe,hNN,_,hAe,hMe,hAl,hMl,hAM,hFe,hrE⟩:=hr1.root (n0:=n) (Ak _) (λ_=>False) (λ_ h=>h.elim) (Grow.refl w) (λ_ _ _=>I) none X.nn;have ancE:Anc X Ae w Me:=⟨hAe,hMe,hev0.kp⟩;refine Wr λfn hfn'=>?_;obtain⟨rc,hrc⟩:∃rc:LoopState->Option Code->Loop,rc=λst pe=> {state:=st,pending:=pe,fn,tmps:=a.tmps,params:=ps,assign,body,defers:=w.heap.size}:=⟨_,I⟩;obtain⟨V,hV⟩:∃V,V=(w.alloc (.deferred (some []))).alloc (.loop (rc .ready none)):=⟨_,I⟩;have hs:V.heap.size=w.heap.size+1+1:=by rw[hV];simp
 have hL:V.heap[w.heap.size+1]? =some (.loop (rc .ready none)):=by
  rw[hV];have:=E6 (w.alloc (.deferred (some []))) (.loop (rc .ready none));rwa[Uf] at this
 have hD:V.heap[w.heap.size]? =some (.deferred (some [])):=by
  rw[hV];exact(Gw _ _ _ tqS).trans (E6 w _)
 have hwV:Below w.heap.size w V:=by rw[hV];exact((Ga _ w).alloc (Ak _) _).alloc tqS _
 obtain⟨B,hB⟩:∃B,B=w.heap.size:=⟨_,I⟩;rw[<-hB] at hL hD hs
 let XE:Fx:=Rt X none X.nn w Ae Me Ne
 let Z:(Nat->Prop)->Nat->Prop:=λO b=>O b\/b=B\/b=B+1
 have hZE:∀O:Nat->Prop,(∀b,O b->B+2<=b)->∀b,Z O b->XE.w0.heap.size<=b:=by
  intro O hO b hb;show w.heap.size<=b
  rcases hb with h|h|h
  ·have:=hO b h;omega
  ·omega
  ·omega
 let Jc:Nat->(Nat->Prop)->World->(TE->LE->Nat->List Fact->DF->Act->Loop->Prop)->Prop:=λk O V cnd=>∃(A:Nat->Prop) (M N:List Nat) (T':TE) (L':LE) (n':Nat) (F':List Fact) (D':DF) (a':Act) (lp:Loop),
  cnd T' L' n' F' D' a' lp/\N.length=n/\n<=n'/\(∀i b,i<n->Ne[i]? =some b->N[i]? =some b)/\Anc XE A V M/\(∀b,Z O b->(¬A b/\b ∉ M)/\b<V.heap.size)/\Rel (Rt X none X.nn V A M N) T' L' n' F' D' a' V/\
   V.heap[B+1]? =some (.loop lp)/\V.heap[B]? =some (.deferred (some []))/\∀b,O b->B+2<=b
 have stab:∀k O V V' cnd,Jc k O V cnd->Chg O V V'->Jc k (P6 O V V') V' cnd:=by
  rintro k O V V' cnd ⟨A,M,N,T',L',n',F',D',a',lp,hc,h1,h2,h3,h4,h5,h6,h7,h8,h9⟩ hch;have hw':∀b,b<V.heap.size->¬Z O b->V'.heap[b]? =V.heap[b]?:=λb hb hz=>hch.keep b hb λho=>hz (.inl ho);obtain⟨A2,M2,N2,g1,g2,g3,g4,g5,g6,g7,_⟩:=DG (Z:=Z O) h6 h2 h4 h5 (hZE O h9) hch.toGrow hw' none X.nn;refine⟨A2,M2,N2,T',L',n',F',D',a',lp,hc,g1,h2,λi b hi hb=>g2 i b hi (h3 i b hi hb),g3,λb hb=>?_,g7,?_,?_,?_⟩
  ·rcases hb with (hb|hb)|hb
   ·exact⟨g4 b (.inl hb),Aw (h5 b (.inl hb)).2 hch.size⟩
   ·exact⟨⟨λh=>by have:=g5 b h;omega,λh=>by have:=g6 b h;omega⟩,hb.2⟩
   ·exact⟨g4 b (.inr hb),Aw (h5 b (.inr hb)).2 hch.size⟩
  ·rw[hch.keep _ (Dr h7) λh=>by have:=h9 _ h;omega];exact h7
  ·rw[hch.keep _ (Dr h8) λh=>by have:=h9 _ h;omega];exact h8
  ·rintro b (hb|hb)
   ·exact h9 b hb
   ·have:=Dr h7;omega
 let cJ:Nat->TE->LE->Nat->List Fact->DF->Act->Loop->Prop:=λk T' L' n' F' D' a' lp=>lp=rc .ready none/\∃gk,p k gk/\T=T'/\L'=(σ k gk).1/\n=n'/\F'=(σ k gk).2/\D=D'/\a=a'
 let cX:TE->LE->Nat->List Fact->DF->Act->Loop->Prop:=λT' L' n' F' D' a' lp=>∃c,lp=rc .done (some c)/\VB X T D K c n L' n' F'
 have bp:∀(l:Nat) (V:World) (ob:Obj) (r0:Loop),l=B+1->V.heap[B+1]? =some (.loop r0)->Grow V (V.putObj l ob)/\∀(O:Nat->Prop) b,b<V.heap.size->¬Z O b->(V.putObj l ob).heap[b]? =V.heap[b]?:=by
  rintro l V ob r0 rfl _;refine⟨⟨I,I,I,tqS⟩,λO b hb hz=>Gb λe=>hz (.inr (.inr e))⟩
 have lpn:∀st pe,(rc st pe).params=ps:=λst pe=>by rw[hrc]
 refine⟨B+1,[Nb B],V,{target:=.fn (.func gf) lb.toArray,args:= #[.func (.yield (B+1)) #[] #[]]},V,gf,#[.func (.yield (B+1)) #[] #[]]++lb.toArray,V,?_,?_,λ_ _=>trivial,?_,λh=>by simp[Fence.wide] at h,?_⟩
 ·rw[hV,hrc,hB];exact run_enterLoop_outer _ _ _ _ _
 ·simp only[resolve,hgv];simp[go_sem]
 ·simp[invoke,go_sem,eg']
 have fin:∀(k:Nat) (O:Nat->Prop) (W':World) (T':TE) (L':LE) (n':Nat) (F':List Fact) (D':DF) (a':Act) (lp lp2:Loop) (A:Nat->Prop) (M N:List Nat),N.length=n->n<=n'->(∀i b,i<n->Ne[i]? =some b->N[i]? =some b)->Anc XE A W' M->(∀b,Z O b->(¬A b/\b ∉ M)/\b<W'.heap.size)->
   Rel (Rt X none X.nn W' A M N) T' L' n' F' D' a' W'->W'.heap[B+1]? =some (.loop lp)->W'.heap[B]? =some (.deferred (some []))->(∀b,O b->B+2<=b)->
   Rel X T ((n',T5)::L') (n'+1) F' (λρ=>Nb (ρ n')::D ρ) {a with defers:=[Nb B]++a.defers} (W'.putObj (B+1) (.loop lp2)):=by
  intro k O W' T' L' n' F' D' a' lp lp2 A M N h1 h2 h3 h4 h5 h6 h7 h8 h9;obtain⟨hg,hw'⟩:=bp (B+1) W' (.loop lp2) lp I h7;obtain⟨A2,M2,N2,g1,g2,g3,g4,g5,g6,g7,_⟩:=DG (Z:=Z O) h6 h2 h4 h5 (hZE O h9) hg (hw' O) none X.nn;have g8:=Rel.back (X:=Rt X none X.nn (W'.putObj (B+1) (.loop lp2)) A2 M2 N2) hrE hNe I g7 λi b hi hb=>g2 i b hi (h3 i b hi hb);refine g8.out (ancE.step g3.a g3.m g3.kp) (λi b hb=>?_) ((Gb tqO).trans h8) (g4 B (.inr (.inl I))) tqO;have hi:i<n:=Aw (Aa.1 hb).1 hXN;exact g2 i b hi (h3 i b hi (hNN i b hi hb))
 have round:∀(k:Nat) (x:α) (O:Nat->Prop) (W1:World),xs[k]? =some x->Jc k O W1 (cJ k)->V.heap.size<=W1.heap.size->(∀b,O b->V.heap.size<=b/\b<W1.heap.size)->YieldAt Fence.wide (X.nn- 1- 1) X.P (B+1) (enc x).toArray W1 λe V'=>
   (e=.returned (.bool true)/\Jc (k+1) O V' (cJ (k+1))/\Keep (λb=>Ae b\/O b) W1 V')\/(e=.returned (.bool false)/\Jc (k+1) O V' cX/\Keep O W1 V'):=by
  rintro k x O W1 hx ⟨A,M,N,T',L',n',F',D',a',lp,⟨rfl,gk,hp,rfl,rfl,rfl,rfl,rfl,rfl⟩,h1,h2,h3,h4,h5,h6,h7,h8,h9⟩ hVs hOb;have hy:=run_yield (P:=X.P) (args:=(enc x).toArray) h7 (by rw[lpn];simp[hps x]);refine⟨fn,_,assign,body,by rw[hrc] at hy;exact hy,roundIn_of_wpIn hfn' ?_⟩;obtain⟨A1,M1,N1,a1,a2,a3,a4,a5,a6,a7,_⟩:=DG (Z:=Z O) h6 h2 h4 h5 (hZE O h9) (Grow.refl W1) (λ_ _ _=>I) (some (B+1)) (X.nn- 1- 1);refine Ht (hround k x gk hx hp (B+1) W1 A1 M1 N1 a1) _ ?_ _ _ (LG (X:=Rt X (some (B+1)) (X.nn- 1- 1) W1 A1 M1 N1) hpk a7);intro e Ta La na Fa Da hK aa Wa hra;cases e with
  |normal=>
   have kp1:Kp M1 W1 Wa:=by obtain⟨_,_,h⟩:=hra.one;exact h.kp
   have z1:∀b,Z O b->(¬A1 b/\b ∉ M1)/\b<W1.heap.size:=λb hb=>⟨a4 b hb,(h5 b hb).2⟩;have l2a:Wa.heap[B+1]? =some (.loop (rc .ready none)):=(kp1.keep _ (Dr h7) (a4 _ (.inr (.inr I))).2).trans h7;have l3a:Wa.heap[B]? =some (.deferred (some [])):=(kp1.keep _ (Dr h8) (a4 _ (.inr (.inl I))).2).trans h8;refine⟨_,run_beginRound l2a (by rw[hrc]),?_⟩;obtain⟨Wb,hWb⟩:∃Wb,Wb=Wa.putObj (B+1) (.loop {rc .ready none with state:=.busy}):=⟨_,I⟩;rw[<-hWb];obtain⟨hg1,hw1⟩:=bp (B+1) Wa (.loop {rc .ready none with state:=.busy}) _ I l2a;rw[<-hWb] at hg1 hw1;obtain⟨hnb,_⟩:=hK Wb A1 M1 N1 a1;have hnb:n<=na:=by simpa using hnb
   obtain⟨A2,M2,N2,b1,b2,b3,b4,b5,b6,b7,_⟩:=DG (Z:=Z O) hra hnb a3 z1 (hZE O h9) hg1 (hw1 O) (some (B+1)) (X.nn- 1- 1);have l2b:Wb.heap[B+1]? =some (.loop {rc .ready none with state:=.busy}):=by rw[hWb];exact Oz (Dr l2a)
   have l3b:Wb.heap[B]? =some (.deferred (some [])):=by rw[hWb];exact(Gb tqO).trans l3a
   have z2:∀b,Z O b->(¬A2 b/\b ∉ M2)/\b<Wb.heap.size:=λb hb=>⟨b4 b hb,Aw (z1 b hb).2 (Bf kp1.size hg1.size)⟩;refine Ht (hK Wb A2 M2 N2 b1).2 _ ?_ _ _ b7;intro e Tc Lc nc Fc Dc hK2 ac Wc hrc2;have kp2:Kp M2 Wb Wc:=by obtain⟨_,_,h⟩:=hrc2.one;exact h.kp
   have l2c:Wc.heap[B+1]? =some (.loop {rc .ready none with state:=.busy}):=(kp2.keep _ (Dr l2b) (b4 _ (.inr (.inr I))).2).trans l2b;have l3c:Wc.heap[B]? =some (.deferred (some [])):=(kp2.keep _ (Dr l3b) (b4 _ (.inr (.inl I))).2).trans l3b;have out:∀(jump:Option Code),∃Wd,(Instr.endRound (B+1) jump).run X.P Wc=.ok (.bool jump.isNone) Wd/\Wd.heap[B+1]? =some (.loop (rc (if jump.isNone then .ready else .done) jump))/\Wd.heap[B]? =some (.deferred (some []))/\Grow Wc Wd/\(∀b,b<Wc.heap.size->¬Z O b->Wd.heap[b]? =Wc.heap[b]?)/\Keep (λb=>Ae b\/O b) W1 Wd:=by
    intro jump;have e1:=run_endRound (P:=X.P) jump l2c;rw[hrc] at e1;obtain⟨hg2,hw2⟩:=bp (B+1) Wc (.loop (rc (if jump.isNone then .ready else .done) jump)) _ I l2c;refine⟨_,by rw[hrc];exact e1,Oz (Dr l2c),(Gb tqO).trans l3c,hg2,hw2 O,⟨⟨?_,?_,?_,?_⟩,?_⟩⟩
    ·exact hg2.os.trans (kp2.os.trans (hg1.os.trans kp1.os))
    ·exact hg2.tape.trans (kp2.tape.trans (hg1.tape.trans kp1.tape))
    ·exact hg2.output.trans (kp2.output.trans (hg1.output.trans kp1.output))
    ·exact Bf kp1.size (Bf hg1.size (Bf kp2.size hg2.size))
    ·intro b hb hAO;have n1:b ∉ M1:=by
      intro hm;rcases hAO with h|h
      ·rcases a3.m b hm with h'|h'
       ·exact hAM b h h'
       ·have:=hAl b h;have:w.heap.size<=b:=h';omega
      ·exact(a4 b (.inl h)).2 hm
     have n2:b ∉ M2:=by
      intro hm;rcases hAO with h|h
      ·rcases b3.m b hm with h'|h'
       ·exact hAM b h h'
       ·have:=hAl b h;have:w.heap.size<=b:=h';omega
      ·exact(b4 b (.inl h)).2 hm
     have n3:b≠B+1:=by
      rcases hAO with h|h
      ·have:=hAl b h;omega
      ·have:=h9 b h;omega
     have hb2:b<Wb.heap.size:=Aw hb (Bf kp1.size hg1.size);rw[Gb n3,kp2.keep b hb2 n2,hWb,Gb n3,kp1.keep b hb n1]
   have away:∀(c:Code),VB X T D K c n Lc nc Fc->∃v w',(Instr.endRound (B+1) (some c)).run X.P Wc=.ok v w'/\((Ending.returned v=.returned (.bool true)/\Jc (k+1) O w' (cJ (k+1))/\Keep (λb=>Ae b\/O b) W1 w')\/(Ending.returned v=.returned (.bool false)/\Jc (k+1) O w' cX/\Keep O W1 w')):=by
    intro c hst;obtain⟨Wd,c1,c2,c3,c4,c5,c6⟩:=out (some c);have hnc:n<=nc:=by simpa using hst.1
    obtain⟨A3,M3,N3,d1,d2,d3,d4,d5,d6,d7,_⟩:=DG (Z:=Z O) hrc2 hnc b3 z2 (hZE O h9) c4 c5 none X.nn;refine⟨_,_,c1,.inr ⟨I,⟨A3,M3,N3,Tc,Lc,nc,Fc,Dc,ac,_,⟨c,I,hst⟩,d1,hnc,λi b hi hb=>d2 i b hi (b2 i b hi (a2 i b hi (h3 i b hi hb))),d3,λb hb=>⟨d4 b hb,?_⟩,d7,c2,c3,h9⟩,⟨c6.toGrow,λb hb ho=>c6.keep b hb (.inr ho)⟩⟩⟩;exact Aw (z2 b hb).2 (Bf kp2.size c4.size)
   cases e with
   |normal=>
    obtain⟨g',hp',hwk⟩:=hK2;obtain⟨Wd,c1,c2,c3,c4,c5,c6⟩:=out none;obtain⟨A3,M3,N3,d1,d2,d3,d4,d5,d6,d7,_⟩:=DG (Z:=Z O) (hwk ac Wc hrc2) (Ak n) b3 z2 (hZE O h9) c4 c5 none X.nn;have d8:=Rel.back (X:=Rt X none X.nn Wd A3 M3 N3) h6 h1 I d7 λi b hi hb=>d2 i b hi (b2 i b hi (a2 i b hi hb));refine⟨_,_,c1,.inl ⟨I,⟨A3,M3,N3,T,_,n,_,D,a,_,⟨I,g',hp',I,I,I,I,I,I⟩,d1,Ak _,λi b hi hb=>d2 i b hi (b2 i b hi (a2 i b hi (h3 i b hi hb))),d3,λb hb=>⟨d4 b hb,?_⟩,d8,c2,c3,h9⟩,c6⟩⟩;exact Aw (z2 b hb).2 (Bf kp2.size c4.size)
   |exit id=>exact away _ hK2
   |goto l=>exact away _ hK2
   |ret=>exact away _ hK2
   |panic ch=>exact hK2.elim
   |outgrown=>exact hK2.elim
  |exit id=>exact hK.elim
  |goto l=>exact hK.elim
  |ret=>exact hK.elim
  |panic ch=>exact hK.elim
  |outgrown=>exact hK.elim
 have key:=hseq {n:=X.nn- 1,l:=B+1,A:=Ae,J:=λk O V=>Jc k O V (cJ k),Jx:=λk O V=>Jc k O V cX,W:=V,hJ:=λk O V V' h hc=>stab k O V V' _ h hc,hJx:=λk O V V' h hc=>stab k O V V' _ h hc,hY:=round}
  (λb hb=>by have:=hAl b hb;show b<V.heap.size;omega) (λf hf=>f.ok (w:=w) (λ_ h=>h) (λb hb=>hwV.block b (hAl b hb)) ⟨hwV.os,hwV.tape,hwV.output,hwV.size⟩ (hFe f (hF0 f hf))) ?_
 ·refine key.mono ?_;rintro e W' ⟨⟨v,rfl⟩,⟨O,A,M,N,T',L',n',F',D',a',lp,⟨rfl,gk,hp,rfl,rfl,rfl,rfl,rfl,rfl⟩,h1,h2,h3,h4,h5,h6,h7,h8,h9⟩|⟨k,O,⟨A,M,N,T',L',n',F',D',a',lp,⟨c,rfl,hst⟩,h1,h2,h3,h4,h5,h6,h7,h8,h9⟩,hk0,hk1⟩⟩
  ·refine⟨none,_,by have:=run_endLoop (P:=X.P) h7 (by rw[hrc];simp);rw[hrc] at this;exact this,?_⟩;exact hQ _ _ _ _ _ _ (hdone gk hp) _ _ (fin xs.length O W' _ _ _ _ _ _ _ _ A M N h1 h2 h3 h4 h5 h6 h7 h8 h9)
  ·refine⟨some c,_,by have:=run_endLoop (P:=X.P) h7 (by rw[hrc];simp);rw[hrc] at this;exact this,?_⟩;show c.wpIn Fence.wide X.nn X.P Q _ _
   rw[<-hfe];exact Ht hst.2 Q hQ _ _ (fin k O W' _ _ _ _ _ _ _ _ A M N h1 h2 h3 h4 h5 h6 h7 h8 h9)
 ·obtain⟨A2,M2,N2,g1,g2,g3,g4,g5,g6,g7,_⟩:=DG (XE:=XE) (Z:=λ_=>False) (V:=w) (Wa:=w) (Wb:=V) hrE (Ak n) ⟨λb hb=>.inl hb,λb hb=>.inl hb,Kp.refl _ _⟩ (λ_ h=>h.elim) (λ_ h=>h.elim) ⟨hwV.os,hwV.tape,hwV.output,hwV.size⟩ (λb hb _=>hwV.block b hb) none X.nn;refine⟨A2,M2,N2,T,(σ 0 g0).1,n,(σ 0 g0).2,D,a,_,⟨I,g0,h0,I,I,I,I,I,I⟩,g1,Ak _,g2,g3,λb hb=>?_,g7,hL,hD,λb h=>h.elim⟩;rcases hb with h|h|h
  ·exact h.elim
  ·exact⟨⟨λh'=>by have:=g5 b h';omega,λh'=>by have:=g6 b h';omega⟩,by show b<V.heap.size;omega⟩
  ·exact⟨⟨λh'=>by have:=g5 b h';omega,λh'=>by have:=g6 b h';omega⟩,by show b<V.heap.size;omega⟩
end
section
variable {X:Fx} {T:TE} {L:LE} {n:Nat} {F:List Fact} {D:DF} {K:KK}
theorem Rel.chgOwn {k:Nat} {e e':LC} {a:Act} {w w':World} (h:Rel X T L n F D a w) (hk:Ah L k=some e) (hb:∀ρ,e.blk ρ k=some (ρ k)) (hb':∀ρ,e'.blk ρ k=some (ρ k))
  (hw:∀A ρ,Rel0 X T L F D A ρ a w->Grow w w'/\(∀b,b≠ρ k->w'.heap[b]? =w.heap[b]?)/\e'.holds ρ k w'):Rel X T ((k,e')::L) n F D a w':=by
 obtain⟨hkb,ρ0,A,hr0⟩:=h;refine⟨λk' e2 hk'=>?_,ρ0,A,λρ hρ=>?_⟩
 ·rw[As] at hk';split at hk'
  ·rename_i ek;rw[ek];exact hkb _ _ hk
  ·exact hkb _ _ hk'
 have h1:=hr0 ρ hρ;obtain⟨hg,old,hold⟩:=hw A ρ h1;have bl:∀k' e2 b,Ah ((k,e')::L) k'=some e2->e2.blk ρ k'=some b->(k'=k/\b=ρ k)\/(k'≠k/\Ah L k'=some e2/\b≠ρ k):=by
  intro k' e2 b hk' hb2;rw[As] at hk';split at hk'
  ·rename_i ek;cases hk';subst ek;rw[hb'] at hb2;exact .inl ⟨I,(Ij hb2).symm⟩
  ·rename_i ek;refine .inr ⟨ek,hk',λeb=>ek ?_⟩;subst eb;exact h1.ds k' k e2 _ _ hk' hk hb2 (hb ρ)
 refine⟨⟨h1.tm,?_,λf hf=>f.ok (w:=w) (λ_ h=>h) (λb hb2=>old b λe=>?_) hg (h1.a3 f hf)⟩,h1.sz,h1.df,?_,?_,?_,h1.a1,?_,h1.mb⟩
 ·intro k' e2 hk';have hk0:=hk';rw[As] at hk';split at hk'
  ·rename_i ek;cases hk';subst ek;exact hold
  ·rename_i ek;refine LC.keep (w:=w) (h1.lo k' e2 hk') λb hb2=>old b λeb=>ek ?_;subst eb;exact h1.ds k' k e2 _ _ hk' hk hb2 (hb ρ)
 ·subst e;exact(h1.a2 _ hb2).2 k _ hk (hb ρ)
 ·refine⟨hg.os.trans h1.kp.os,hg.tape.trans h1.kp.tape,hg.output.trans h1.kp.output,Bf h1.kp.size hg.size,λb hb2 hm=>?_⟩;rw[old b ?_]
  ·exact h1.kp.keep b hb2 hm
  ·intro e;subst e;rcases h1.nw k _ _ hk (hb ρ) with h2|h2
   ·exact hm h2
   ·omega
 ·intro k' e2 b hk' hb2;rcases bl k' e2 b hk' hb2 with ⟨rfl,rfl⟩|⟨_,h3,_⟩
  ·exact h1.nw _ _ _ hk (hb ρ)
  ·exact h1.nw k' e2 b h3 hb2
 ·intro k1 k2 f1 f2 b hk1 hk2 hb1 hb2;rcases bl k1 f1 b hk1 hb1 with ⟨g1,g2⟩|⟨_,h3,h4⟩<;>rcases bl k2 f2 b hk2 hb2 with ⟨g3,g4⟩|⟨_,h3',h4'⟩
  ·rw[g1,g3]
  ·exact absurd g2 h4'
  ·exact absurd g4 h4
  ·exact h1.ds k1 k2 f1 f2 b h3 h3' hb1 hb2
 ·intro b hb2;refine⟨Aw (h1.a2 b hb2).1 hg.size,λk' e2 hk' hbk=>?_⟩;rcases bl k' e2 b hk' hbk with ⟨_,rfl⟩|⟨_,h3,_⟩
  ·exact(h1.a2 _ hb2).2 k _ hk (hb ρ)
  ·exact(h1.a2 b hb2).2 k' e2 h3 hbk
theorem Oa {nn:Nat} {R:Ending->World->Prop} {res:List ResultVar} {u:FrameMode} {k:Nat} (hu:u≠.run) (hk:Ah L k=some T5) (h:LvR X nn R res u T ((k,.obj (.deferred none))::L) n F D):LvR X nn R res u T L n F (λρ=>Nb (ρ k)::D ρ):=by
 intro a w hr fn hfn;obtain⟨A,ρ,h0⟩:=hr.one;have hb:w.heap[ρ k]? =some (.deferred (some [])):=h0.lo k _ hk;have hpin:∀A' ρ',Rel0 X T L F (λρ=>Nb (ρ k)::D ρ) A' ρ' a w->ρ' k=ρ k:=by
  intro A' ρ' h1;have e:=h1.df;rw[h0.df] at e;have e:=(Ql e).1;simp only[Nb,Deferred.mk.injEq,Target.collected.injEq] at e;exact e.1.symm
 have hr2:Rel X T ((k,.obj (.deferred none))::L) n F (λρ=>Nb (ρ k)::D ρ) a (w.putObj (ρ k) (.deferred none)):=by
  refine hr.chgOwn hk (λ_=>I) (λ_=>I) λA' ρ' h1=>?_;rw[hpin A' ρ' h1];exact⟨⟨I,I,I,tqS⟩,λb hb'=>Gb hb',by show (w.putObj (ρ k) _).heap[ρ' k]? =_;rw[hpin A' ρ' h1];exact Oz (Dr hb)⟩
 have hp:=h _ _ hr2.popD fn hfn;have hd:a.defers=Nb (ρ k)::D ρ:=h0.df;rw[hd] at hp⊢;exact⟨hu,.inl ⟨ρ k,_,I,run_takeDeferred hb,hp⟩⟩
def Aav (K:KK):KK:=λe T L n F D=>match e with
 | .goto _=>False
 |e=>K e T L n F D
theorem Xi {c:Code} (hr:X.r=none) (h:sx X c T L n F D (Aav K)):CJs X (.scope c) T L n F D K:=by
 intro Q hQ a w hrel;have hfe:X.fe=Fence.wide:=by unfold Fx.fe;rw[hr];rfl
 have:=Ht h (Exit.noGoto Q) (λe T L n F D hK a w hr'=>by
  cases e with
  |goto l=>exact hK.elim
  |normal=>exact hQ _ _ _ _ _ _ hK a w hr'
  |exit id=>exact hQ _ _ _ _ _ _ hK a w hr'
  |ret=>exact hQ _ _ _ _ _ _ hK a w hr'
  |panic ch=>exact hQ _ _ _ _ _ _ hK a w hr'
  |outgrown=>exact hQ _ _ _ _ _ _ hK a w hr') a w hrel
 rw[hfe] at this⊢;exact VQ this
def Afr (X:Fx) (c:Code) (K:KK):Nat->TE->LE->Nat->List Fact->DF->Prop
 |0,_,_,_,_,_=>False
 |m+1,T,L,n,F,D=>sx X c T L n F D λe T L n F D=>match e with
  | .normal=>Afr X c K m T L n F D
  |e=>K e T L n F D
theorem Hj {c:Code} (m:Nat) (h:Afr X c K m T L n F D):CJs X (.loop c) T L n F D K:=by
 intro Q hQ a w hr;refine wpIn_loop_rounds m ?_;induction m generalizing T L n F D a w with
 |zero=>exact h.elim
 |succ m ih=>
  refine Ht h _ ?_ a w hr;intro e T L n F D hK a w hr';cases e with
  |normal=>exact ih hK a w hr'
  |goto l=>exact hQ _ _ _ _ _ _ hK a w hr'
  |exit id=>exact hQ _ _ _ _ _ _ hK a w hr'
  |ret=>exact hQ _ _ _ _ _ _ hK a w hr'
  |panic ch=>exact hQ _ _ _ _ _ _ hK a w hr'
  |outgrown=>exact hQ _ _ _ _ _ _ hK a w hr'
theorem Lp {res:List ResultVar} {mu:List MB} {Out:Gx} {us:List TV} {css:List (List SV)} {ls:List (Nat×List SV×TypeId)} (ks:List Nat) (F1:List Fact) (hh:W4 L ks=some ls/\Vs X.tab T L res=some us/\muS L 0 mu=some css) (hout:∀ρ,Out (.returned (Uo ρ us)) (css.map (C4 ρ)) ((Mh ρ ls).map (λx=>B9 x.1 x.2.1 x.2.2)++F1)) (hkm:(ks.all λk=>Nat.ble mu.length k)=true:=by exact I) (hD:D=λ_=>[]:=by exact I) (hM:X.M=mu.map (·.1)/\X.N=mu.map (·.1):=by exact⟨I,I⟩) (hF:∀f∈F1,f∈F:=by exact tqF):Xy X res mu Out T L n F D:=by
 obtain⟨hls,hres,hmu⟩:=hh;intro a w hr;obtain⟨A,ρ,h0⟩:=hr.one;refine⟨by rw[h0.df,hD],λfn hfn=>⟨Uo ρ us,Mj h0.toVw (by rw[hfn];exact hres),?_⟩⟩;obtain⟨h1,h2⟩:=IT hmu;obtain⟨l1,l2⟩:=Vo hls;have hlk:∀x∈ls,x.1∈ks:=λx hx=>by rw[<-l1];exact Cd.2 ⟨x,hx,I⟩
 refine⟨css.map (C4 ρ),_,hout ρ,by rw[<-hM.1];exact h0.kp,by simp[h1],?_,λb=>A b\/∃x∈ls,ρ x.1=b,?_,?_,?_⟩
 ·intro i x c hx hc;simp only[Cq,Dn] at hc;obtain⟨cs,hcs,rfl⟩:=hc;have h3:=h2 i x cs hx hcs;rw[Bl] at h3;have h4:=h0.lo i _ h3;have h5:=h0.mb i x.1 (by rw[hM.2];simp[hx]);simp only[LC.holds] at h4;rw[<-h5];exact h4
 ·rintro b (hb|⟨x,hx,rfl⟩)
  ·exact h0.a1 b hb
  ·rcases h0.nw x.1 _ _ (l2 x hx) I with h|h
   ·exfalso;rw[hM.1] at h;obtain⟨y,hy,hyb⟩:=Cd.1 h;obtain⟨i,hi⟩:=B6.1 hy;have hil:=(Aa.1 hi).1;obtain⟨cs,hcs⟩:∃cs,css[i]? =some cs:=⟨_,A8 (by rw[h1];exact hil)⟩;have h3:=h2 i y cs hi hcs;rw[Bl] at h3;have h5:=h0.mb i y.1 (by rw[hM.2];simp[hi]);have:=h0.ds x.1 i _ _ (ρ x.1) (l2 x hx) h3 I (by simp only[LC.blk];rw[h5,hyb]);have h6:=A6.1 hkm x.1 (hlk x hx);simp only[G6] at h6;omega
   ·exact .inr h
 ·rintro b (hb|⟨x,hx,rfl⟩)
  ·exact(h0.a2 b hb).1
  ·exact LC.lt (h0.lo x.1 _ (l2 x hx)) I
 ·intro f hf;rcases B4.1 hf with hf|hf
  ·obtain⟨y,hy,rfl⟩:=Cd.1 hf;obtain⟨x,hx,rfl⟩:=Cd.1 hy;exact⟨.inr ⟨x,hx,I⟩,h0.lo x.1 _ (l2 x hx)⟩
  ·exact f.ok (λ_ h=>.inl h) (λ_ _=>I) (Grow.refl _) (h0.a3 f (hF f hf))
theorem YF {o:Oper} {k:KS} {cl:Call} {x y:Operand} {ki kj:IntKind} {p q:Int} (ho:o.op=.call cl) (hc:cl.callee=.builtin .min) (hargs:cl.args.toList=[x,y]) (hx:evS T x=some (.o (.v (.int ki p)))) (hy:evS T y=some (.o (.v (.int kj q)))) (h:R1 X o T L n F D k (.o (.v (.int ki (min p q))))):OJs X o T L n F D k K:=by
 refine NG (by simp[Cw,ho]) (λA ρ a' w h0=>?_) h;have e1:=h0.ev hx;have e2:=h0.ev hy;have ha:cl.args= #[x,y]:=Cn hargs;simp only[TV.den,SV.den] at e1 e2;simp[execOp,ho,resolve,hc,ha,e1,e2,invoke,builtin,Lib.run_min_ints,TV.den,SV.den]
theorem Qo:FrameMode.returning≠.run:=by simp
end
section
variable {X:Fx} {o:Oper} {T:TE} {L:LE} {n:Nat} {F:List Fact} {D:DF} {K:KK} {k:KS} {c:Code}
variable {a:Option Addr} {cap:Nat} {cells:List Value} {e:TypeId} {m sz:Nat}
theorem Vp {w:World} (h:w.ownsRow 0 e sz (.slice a m cap) m cells) (hm:0<m):∃g cur,a=some ⟨g,0,none⟩/\w.heap[g]? =some (.cells cur e (0,0))/\m<=cap/\cap<=maxLen/\cur.size=cap*sz/\cur.toList.take (m*sz)=cells/\cells.length=m*sz:=by
 rcases h.2 with ⟨_,h2⟩|⟨g,cap',cur,h2,_,h3,h4,h5,h6,h7⟩
 ·omega
 ·simp only[Value.slice.injEq] at h2;obtain⟨rfl,_,rfl⟩:=h2;exact⟨g,cur,I,h3,h4,h5,h6,h7,h.1⟩
theorem W7 (j:Nat) (hj:Ah L j=some (.own (.slice a m cap) e sz m cells)) (hm:0<m) (h:∀g,a=some ⟨g,0,none⟩->OJs X o T L n F D k K):OJs X o T L n F D k K:=by
 intro Q hQ Φ hΦ a' w hr;obtain⟨A,ρ,h0⟩:=hr.one;obtain⟨g,_,e1,_⟩:=Vp (h0.lo j _ hj) hm;exact h g e1 Q hQ Φ hΦ a' w hr
theorem Wy (j:Nat) (hj:Ah L j=some (.own (.slice a m cap) e sz m cells)) (hm:0<m) (h:∀g,a=some ⟨g,0,none⟩->CJs X c T L n F D K):CJs X c T L n F D K:=by
 intro Q hQ a' w hr;obtain⟨A,ρ,h0⟩:=hr.one;obtain⟨g,_,e1,_⟩:=Vp (h0.lo j _ hj) hm;exact h g e1 Q hQ a' w hr
variable {kd:Option Nat} {off:Nat}
theorem TX {cs pre:List Value} {v:Value} (hp:cs.take m=pre) (h:Jq kd pre off=some v):Jq kd cs off=some v:=by
 subst hp;cases kd with
 |none=>
  simp only[Jq] at h⊢;rw[Kz] at h;split at h
  ·exact h
  ·cases h
 |some q=>
  simp only[Jq] at h⊢;split at h
  ·rename_i hq;rw[Am] at hq;rw[Bi tqO];cases h;rw[List.drop_take,Gq,C1 tqO]
  ·cases h
theorem VV {t:TypeId} {x:Operand} {j g:Nat} {u:TV} (ho:o.op=.load t x) (hk:Ah X.tab.kd t=some kd) (hx:evS T x=some (.o (.v (.pointer (some ⟨g,off,none⟩)))))
  (hj:Ah L j=some (.own (.slice (some ⟨g,0,none⟩) m cap) e sz m cells)) (hm:0<m) (hp:Pf kd (cells.map SV.v) off=some u):Yd X o T L F u:=by
 refine⟨by simp[Cw,ho],λA ρ a w h0=>?_⟩;obtain⟨g',cur,e1,h3,h4,h5,h6,h7,h8⟩:=Vp (h0.lo j _ hj) hm;cases e1;have h9:=R2 hp ρ;rw[Ji] at h9;have:=Nt (X.ok.kd _ _ hk) (b:=g) (cs:=cur.toList) (by simpa using h3) (TX h7 h9);simp[execOp,ho,h0.ev hx,TV.den,SV.den,Instr.loadAt,Instr.sureAddr,this]
theorem EE {t:TypeId} {x:Operand} (j:Nat) {g:Nat} {u:TV} (hj:Ah L j=some (.own (.slice (some ⟨g,0,none⟩) m cap) e sz m cells)) (ho:o.op=.load t x) (hk:Ah X.tab.kd t=some kd) (hx:evS T x=some (.o (.v (.pointer (some ⟨g,off,none⟩)))))
  (hm:0<m) (hp:Pf kd (cells.map SV.v) off=some u) (h:R1 X o T L n F D k u):OJs X o T L n F D k K:=Au (VV ho hk hx hj hm hp) h
variable {xs:List Value}
theorem Abt {cs pre:List Value} (hp:cs.take m=pre) (hl:off+xs.length<=pre.length):(cs.take off++xs++cs.drop (off+xs.length)).take m=pre.take off++xs++pre.drop (off+xs.length):=by
 subst hp;rw[Am] at hl;have e1:min m off=off:=by omega
 have e2:min off cs.length=off:=by omega
 have e3:min off m=off:=by omega
 rw[Cp,Cp,Ub,Ub,Gq,Am,Gq,e1,e2,e3,Dm (l:=xs) tqO,List.drop_take];rw[show m- off- xs.length=m- (off+xs.length) by omega]
theorem Yg {t:TypeId} {x y:Operand} (j:Nat) {g:Nat} {u:TV} (hj:Ah L j=some (.own (.slice (some ⟨g,0,none⟩) m cap) e sz m cells)) (ho:o.op=.store t x y) (hd:o.dst=none) (hk:Ah X.tab.kd t=some kd)
  (hx:evS T x=some (.o (.v (.pointer (some ⟨g,off,none⟩))))) (hy:evS T y=some u) (hu:u.cells=some (xs.map SV.v)) (hm:0<m) (hxs:xs.length=kd.getD 1) (hl:off+xs.length<=cells.length) (h1:∀v∈xs,v.oneCell'=true) {cells':List Value} (he:cells.take off++xs++cells.drop (off+xs.length)=cells')
  (h:k T ((j,.own (.slice (some ⟨g,0,none⟩) m cap) e sz m cells')::L) n F D):OJs X o T L n F D k K:=by
 subst he;intro Q hQ Φ hΦ a w hr;obtain⟨A,ρ,h0⟩:=hr.one;obtain⟨g',cur,e1,h3,h4,h5,h6,h7,h8⟩:=Vp (h0.lo j _ hj) hm;cases e1;have e2:(a.eval y).cells=xs.toArray:=by
  rw[h0.ev hy];have:=TV.cells_den (ρ:=ρ) hu;rwa[Ji] at this
 have hcl:cells.length<=cur.toList.length:=by rw[<-h7,Am];omega
 have run:=Qc (X.ok.kd _ _ hk) (b:=g) (o:=off) (cs:=cur.toList) (by simpa using h3) e2 hxs tqO h1;have e3:(execOp a.eval o).run X.P w=.ok .skip (w.setRow g (cur.toList.take off++xs++cur.toList.drop (off+xs.length)).toArray):=by
  simp[execOp,ho,Instr.storeAt,h0.ev hx,TV.den,SV.den,Instr.sureAddr,run]
 refine Oper.wpIn_of_run (by simp[Cw,ho]) ?_;rw[e3];have hput:a.put o.dst undef=a:=by rw[hd];rfl
 show Φ (a.put o.dst undef) _
 rw[hput];refine hΦ _ _ _ _ _ h _ _ (hr.own hj (v':=.slice (some ⟨g,0,none⟩) m cap) ⟨?_,.inr ⟨g,cap,(cur.toList.take off++xs++cur.toList.drop (off+xs.length)).toArray,I,Ax _,Qy w _ _ _ _ _ h3,h4,h5,?_,?_⟩⟩ ⟨I,I,I,by rw[Nf];exact Ak _,λb hb hn=>Pr w _ _ _ λe=>hn (by rw[e];rfl)⟩ λg hg=>.inl hg)
 ·simp;omega
 ·simp at hcl⊢;omega
 ·rw[V3];exact Abt h7 hl
theorem Vq {w:World} {base:Nat} {v:Value} (h:w.ownsRow base e sz v m xs):w.ownsRow 0 e sz v m xs/\∀g,v.ownBlock=some g->base<=g:=by
 refine⟨⟨h.1,h.2.imp id λ⟨g,cap,cur,h1,_,h3⟩=>⟨g,cap,cur,h1,Ax _,h3⟩⟩,λg hg=>?_⟩;rcases h.2 with ⟨rfl,_⟩|⟨g',cap,cur,rfl,h2,_⟩
 ·simp[Value.ownBlock] at hg
 ·simp only[Value.ownBlock,B7] at hg;omega
theorem Rel.newRow {a:Act} {w w':World} {v:Value} (h:Rel X T L n F D a w) (hb:Below w.heap.size w w') (hown:w'.ownsRow w.heap.size e sz v m xs):Rel X T ((n,.own v e sz m xs)::L) (n+1) F D a w':=by
 obtain⟨hkb,ρ0,A,h0⟩:=h;obtain⟨hown0,hbase⟩:=Vq hown;refine⟨λk e hk=>?_,ρ0,A,λρ hρ=>?_⟩
 ·rw[As] at hk;split at hk
  ·omega
  ·have:=hkb k e hk;omega
 have h1:=h0 ρ λj hj=>hρ j tqO;have bl:∀k e' b,Ah ((n,LC.own v e sz m xs)::L) k=some e'->e'.blk ρ k=some b->(k=n/\w.heap.size<=b)\/(k≠n/\Ah L k=some e'/\b<w.heap.size):=by
  intro k e' b hk hbk;rw[As] at hk;split at hk
  ·rename_i ek;cases hk;exact .inl ⟨ek,hbase b hbk⟩
  ·rename_i ek;exact .inr ⟨ek,hk,LC.lt (h1.lo k e' hk) hbk⟩
 refine⟨⟨h1.tm,λk e' hk=>?_,λf hf=>f.ok (w:=w) (λ_ h=>h) (λb hb'=>hb.block b (h1.a2 b hb').1) ⟨hb.os,hb.tape,hb.output,hb.size⟩ (h1.a3 f hf)⟩,h1.sz,h1.df,h1.kp.trans ⟨hb.os,hb.tape,hb.output,hb.size,λb hb' _=>hb.block b hb'⟩,λk e' b hk hbk=>?_,λk1 k2 f1 f2 b hk1 hk2 hb1 hb2=>?_,h1.a1,λb hA=>⟨Aw (h1.a2 b hA).1 hb.size,λk e' hk hbk=>?_⟩,h1.mb⟩
 ·have hk0:=hk;rw[As] at hk;split at hk
  ·cases hk;exact hown0
  ·refine LC.keep (w:=w) (h1.lo k e' hk) λb hbk=>hb.block b (LC.lt (h1.lo k e' hk) hbk)
 ·rcases bl k e' b hk hbk with ⟨_,h2⟩|⟨_,h2,_⟩
  ·exact .inr (Bf h1.kp.size h2)
  ·exact h1.nw k e' b h2 hbk
 ·rcases bl k1 f1 b hk1 hb1 with ⟨rfl,h2⟩|⟨_,h2,h3⟩<;>rcases bl k2 f2 b hk2 hb2 with ⟨rfl,h5⟩|⟨_,h5,h6⟩
  ·rfl
  ·omega
  ·omega
  ·exact h1.ds k1 k2 f1 f2 b h2 h5 hb1 hb2
 ·have hlt:=(h1.a2 b hA).1;rcases bl k e' b hk hbk with ⟨_,h2⟩|⟨_,h2,_⟩
  ·omega
  ·exact(h1.a2 b hA).2 k e' h2 hbk
def Co (P:Program) (g:FuncId) (args:List Value) (F0:List Fact) (R:Value->Value) (e:TypeId) (sz m:Nat) (xs:List Value):Prop:=
 ∀(A:Nat->Prop) (w:World),(∀b,A b->b<w.heap.size)->(∀f∈F0,f.h A w)->Calls P g args.toArray w λen w'=>∃v,en=.returned (R v)/\w'.ownsRow w.heap.size e sz v m xs/\Below w.heap.size w w'
theorem Ik {c:Call} {f:Operand} {g d:Nat} {fi ca:List PV} {us:List TV} {args:List Value} {F0:List Fact} {R:Value->Value} (hh:o.op=.call c/\c.callee=.value f/\Va T f=some (g,fi,ca)/\Rg T c.args.toList=some us/\Ah X.tab.fn g=some ()) (hargs:∀ρ,Gn ρ fi us ca=args) (ct:Co X.P g args F0 R e sz m xs) (h:∀a' c',k ((d,.o (.v (R (.slice a' m c'))))::T) ((n,.own (.slice a' m c') e sz m xs)::L) (n+1) F D) (hd:o.dst=some d:=by exact I) (hdk:Nat.blt d X.k=true:=by exact I) (hF0:∀f∈F0,f∈F:=by exact tqF):OJs X o T L n F D k K:=by
 obtain⟨ho,hc,hf,hus,hfn⟩:=hh;intro Q hQ Φ hΦ a w hr;obtain⟨A,ρ,h0⟩:=hr.one;refine Oper.wpIn_of_run (by simp[Cw,ho]) ?_;rw[Qa h0.toVw ho hc hf hus hfn,hargs ρ];refine⟨λhd=>by simp[Fx.fe,Fence.wide] at hd,?_⟩;have hC:=ct A w (λb hb=>(h0.a2 b hb).1) λf hf=>h0.a3 f (hF0 f hf);refine Mk (show CallsIn X.fe (X.nn- 1) X.P g args.toArray w _ from⟨trivial,((Fz (n:=X.nn- 1)).2 hC).2⟩) ?_;rintro en w' ⟨v,rfl,hown,hb⟩;obtain⟨a',c',rfl⟩:=EK (Vq hown).1;refine hΦ _ _ _ _ _ (h a' c') _ w' ((hr.newRow hb hown).put (u:=.o (.v (R (.slice a' m c')))) (λ_ _ _=>I) ?_);simp only[E7,hd,hdk,Ci]
end
theorem add_zero (a:Addr):a.add 0=a:=by unfold Addr.add;simp
theorem EB (a:Option Addr):a.map (·.add 0)=a:=by cases a<;>simp[add_zero]
section
variable {X:Fx} {o:Oper} {T:TE} {L:LE} {n:Nat} {F:List Fact} {D:DF} {K:KK} {k:KS} {c:Code}
variable {t:TypeId}
theorem V7 {P:Program} {e:TypeId} (h:P.underlying t=some (.slice e)):P.underlying t=some (.slice (P.elem t)):=by
 have:P.elem t=e:=by unfold Program.elem;rw[h]
 rw[this];exact h
variable {a:Option Addr} {cap:Nat}
theorem Mi {t:TypeId} {x y:Operand} {m i sz e:Nat} {ki:IntKind} {z:Int} (h:R1 X o T L n F D k (.o (.v (.slice a i cap)))) (hz:z=(i:Int):=by exact I) (ho:o.op=.slice t x none (some y) none:=by exact I) (he:Ah X.tab.el t=some (e,sz):=by exact I) (hx:evS T x=some (.o (.v (.slice a m cap))):=by exact I) (hy:evS T y=some (.o (.v (.int ki z))):=by exact I) (hi:i<=cap:=by exact tqO):OJs X o T L n F D k K:=by
 subst hz;refine NG (by simp[Cw,ho]) (λA ρ a' w h0=>?_) h;obtain⟨h1,i',h2,h3⟩:=Jg (X.ok.el _ _ he);have h4:=V7 h1;have h5:X.P.elem t=e:=by unfold Program.elem;rw[h1]
 have e1:=h0.ev hx;have e2:=h0.ev hy;simp only[TV.den,SV.den] at e1 e2;have hs:(sizeOf (X.P.elem t)).run X.P w=.ok i'.size w:=by rw[h5];simp[sizeOf,typeInfo,h2]
 simp only[execOp,ho,Kh,Gf,e1,e2,Ba,Ln (h:=h4),run_slice_h (ht:=h4) (h0:=Hv i) (h2:=Int.ofNat_le.2 hi),hs,An,Bh,TV.den,SV.den];simp[sliced,EB]
variable {m sz:Nat}
theorem Sq {x y:Operand} {i e:Nat} {ki:IntKind} {z:Int} (hz:z=(i:Int)) (hi:i<=m) (ho:o.op=.slice t x (some y) none none) (he:Ah X.tab.el t=some (e,sz)) (hx:evS T x=some (.o (.v (.slice a m cap)))) (hy:evS T y=some (.o (.v (.int ki z))))
  (h:R1 X o T L n F D k (.o (.v (.slice (if cap=i then a else a.map (·.add (i*sz))) (m- i) (cap- i))))):OJs X o T L n F D k K:=by
 subst hz;refine NG (by simp[Cw,ho]) (λA ρ a' w h0=>?_) h;obtain⟨h1,i',h2,h3⟩:=Jg (X.ok.el _ _ he);have h4:=V7 h1;have h5:X.P.elem t=e:=by unfold Program.elem;rw[h1]
 have e1:=h0.ev hx;have e2:=h0.ev hy;simp only[TV.den,SV.den] at e1 e2;simp only at h2 h3;have hs:(sizeOf (X.P.elem t)).run X.P w=.ok sz w:=by rw[h5];simp[sizeOf,typeInfo,h2,h3]
 simp only[execOp,ho,Kh,Gf,e1,e2,Ba,Ln (h:=h4),run_slice_l (ht:=h4) (h0:=Hv i) (h1:=Int.ofNat_le.2 hi),hs,An,Bh,TV.den,SV.den];simp[sliced]
theorem Xw {j m':Nat} {e:TypeId} {cells:List Value} (hj:Ah L j=some (.own (.slice a m cap) e sz m cells)) (hm:m'<=m) (h0:0<m):Wk X T L n F D ⟨T,(j,.own (.slice a m' cap) e sz m' (cells.take (m'*sz)))::L,n,F,D⟩:=λa' w hr=>
 hr.reL λk e' hk=>by
  rw[As] at hk;split at hk
  ·rename_i ek;cases hk;subst ek;refine⟨_,hj,λ_=>by cases a<;>rfl,λρ h=>?_⟩;obtain⟨g,cur,e1,h3,h4,h5,h6,h7,h8⟩:=Vp h h0;subst e1;have hmm:m'*sz<=m*sz:=D0 _ hm;refine⟨by rw[Am];omega,.inr ⟨g,cap,cur,I,Ax _,h3,tqO,h5,h6,?_⟩⟩;rw[<-h7,Gq,C1 hmm]
  ·exact⟨e',hk,λ_=>I,λ_ h=>h⟩
theorem Ait (n:Nat):(Te n).oneCell'=true:=by
 unfold Te;split<;>rfl
theorem QJ {z:Array Value} (hz:0<z.size) (h:∀v∈z,v.oneCell'=true):∀v∈(Builtin.zeroCells z m).toList,v.oneCell'=true:=by
 intro v hv;simp only[Builtin.zeroCells,Di,Xb,Cd,Hc] at hv;obtain⟨i,_,rfl⟩:=hv;have hi:i % z.size<z.size:=Nat.mod_lt _ hz;rw[getElem!_pos z _ hi];exact h _ (Array.getElem_mem hi)
theorem Yf {cl:Call} {s:Operand} {e:TypeId} (j:Nat) {g i c':Nat} {zs:List Nat} {cells:List Value} {q:Option Addr} (hj:Ah L j=some (.own (.slice (some ⟨g,0,none⟩) m cap) e sz m cells)) (ho:o.op=.call cl) (hcl:cl.callee=.builtin .clear) (hargs:cl.args.toList=[s]) (htys:cl.argTypes.toList=[t]) (hd:o.dst=none)
  (hs:evS T s=some (.o (.v (.slice q (m- i) c')))) (hel:Ah X.tab.el t=some (e,sz)) (hze:Ah X.tab.ze e=some zs) (hzl:zs.length=sz) (hsz:0<sz) (hm:0<m) (hq:m<=cap->m=i\/q=some ⟨g,i*sz,none⟩) (hi:i<=m)
  (h:∀cells',cells'.length=cells.length->cells'.take (i*sz)=cells.take (i*sz)->k T ((j,.own (.slice (some ⟨g,0,none⟩) m cap) e sz m cells')::L) n F D):OJs X o T L n F D k K:=by
 intro Q hQ Φ hΦ a w hr;obtain⟨A,ρ,h0⟩:=hr.one;refine Oper.wpIn_of_run (by simp[Cw,ho]) ?_;obtain⟨ht,i',hi',his⟩:=Jg (X.ok.el _ _ hel);obtain⟨i'',z,hi'',hz1,hz2⟩:=Ts (X.ok.ze _ _ hze);simp only at ht hi' his;rw[hi'] at hi'';cases hi'';have ha1:cl.args= #[s]:=Cn hargs;have ha2:cl.argTypes= #[t]:=Cn htys;have hv:a.eval s=.slice q (m- i) c':=h0.ev hs;obtain⟨g',cur,e1,h3,h4,h5,h6,h7,h8⟩:=Vp (h0.lo j _ hj) hm;cases e1;have hput:∀v,a.put o.dst v=a:=λv=>by rw[hd];rfl
 have fin:∀w',(Builtin.clear_ #[t] o.type #[.slice q (m- i) c']).run X.P w=.ok (.tuple #[]) w'->(execOp a.eval o).run X.P w=.ok (.value (.tuple #[])) w':=by
  intro w' hw;simp only[execOp,ho,resolve,hcl,ha1,ha2,L8,Bj,E4,hv,Ba,Bh,An,invoke,builtin,hw]
 rcases hq h4 with rfl|rfl
 ·rw[fin w (by rw[Le];cases q<;>simp[Builtin.clear_,At ht])];show Φ (a.put o.dst _) w
  rw[hput];refine hΦ _ _ _ _ _ (h cells I I) _ _ (hr.reL λk e' hk=>?_);rw[As] at hk;split at hk
  ·rename_i ek;cases hk;subst ek;exact⟨_,hj,λ_=>I,λ_ h=>h⟩
  ·exact⟨e',hk,λ_=>I,λ_ h=>h⟩
 ·by_cases him:m=i
  ·subst him;rw[fin w (by rw[Le];simp[Builtin.clear_,At ht])];show Φ (a.put o.dst _) w
   rw[hput];refine hΦ _ _ _ _ _ (h cells I I) _ _ (hr.reL λk e' hk=>?_);rw[As] at hk;split at hk
   ·rename_i ek;cases hk;subst ek;exact⟨_,hj,λ_=>I,λ_ h=>h⟩
   ·exact⟨e',hk,λ_=>I,λ_ h=>h⟩
  ·obtain⟨p,hp⟩:∃p,m- i=p+1:=⟨m- i- 1,tqO⟩;have hzs:z.cells.size=sz:=by rw[hz2 ρ];simp[C4,Nz,hzl]
   obtain⟨vs,hvs⟩:∃vs,vs=(Builtin.zeroCells z.cells (p+1)).toList:=⟨_,I⟩;have hl:vs.length=(m- i)*sz:=by rw[hvs,hp];simp[Builtin.zeroCells,hzs]
   have hone:∀v∈vs,v.oneCell'=true:=by
    rw[hvs];refine QJ tqO λv hv=>?_;rw[hz2 ρ] at hv;simp only[C4,Nz,Fp,List.mem_toArray,Cd] at hv;obtain⟨n,_,rfl⟩:=hv;exact Ait n
   have hmul:i*sz+(m- i)*sz=m*sz:=by rw[<-Fl];congr 1;omega
   have hcap:m*sz<=cap*sz:=D0 _ h4;have hst:=Lo X.P g (i*sz) e vs 0 cur w h3 (by rw[hl];omega) hone;obtain⟨W',hW'⟩:∃W',W'=w.setRow g (cur.toList.take (i*sz+0)++vs++cur.toList.drop (i*sz+0+vs.length)).toArray:=⟨_,I⟩;rw[<-hW'] at hst;have hrun:(Builtin.clear_ #[t] o.type #[.slice (some ⟨g,i*sz,none⟩) (m- i) c']).run X.P w=.ok (.tuple #[]) W':=by
    rw[hp];simp only[Builtin.clear_];simp[At ht,zeroValue,typeInfo,hi',hz1,<-hvs,hst]
   rw[fin W' hrun];show Φ (a.put o.dst _) _
   rw[hput];have hcl:cells.length<=cur.toList.length:=by rw[<-h7,Am];omega
   have hcs:cur.toList.length=cap*sz:=by simpa using h6
   subst hW';refine hΦ _ _ _ _ _ (h _ ?_ ?_) _ _ (hr.own hj (v':=.slice (some ⟨g,0,none⟩) m cap) ⟨?_,.inr ⟨g,cap,_,I,Ax _,Qy w _ _ _ _ _ h3,h4,h5,?_,I⟩⟩ ⟨I,I,I,by rw[Nf];exact Ak _,λb hb hn=>Pr w _ _ _ λe=>hn (by rw[e];rfl)⟩ λg hg=>.inl hg)
   ·simp only[Am,Az,Bn,Eb,hl,h8];omega
   ·rw[V3,Gq,C1 tqO,Eb,Cp,C0 (by rw[Am];omega),Gq,Nat.min_self,<-h7,Gq,C1 tqO]
   ·simp only[Am,Az,Bn,Eb,hl];omega
   ·simp only[E9,Am,Az,Bn,Eb,hl];omega
end
def CoW (P:Program) (g:FuncId) (args:Value->List Value) (F0:List Fact) (e sz m:Nat) (xs:List Value) (m':Nat) (xs':List Value):Prop:=
 ∀(A:Nat->Prop) (w:World) (a:Option Addr) (cap:Nat),w.ownsRow 0 e sz (.slice a m cap) m xs->(∀b,(Value.slice a m cap).ownBlock=some b->¬A b)->(∀b,A b->b<w.heap.size)->(∀f∈F0,f.h A w)->
  Calls P g (args (.slice a m cap)).toArray w λen w'=>∃a' c',en=.returned (.slice a' m' c')/\w'.ownsRow 0 e sz (.slice a' m' c') m' xs'/\(∀b,(Value.slice a' m' c').ownBlock=some b->(Value.slice a m cap).ownBlock=some b\/w.heap.size<=b)/\Kp (Value.slice a m cap).ownBlock.toList w w'
section
variable {X:Fx} {o:Oper} {T:TE} {L:LE} {n:Nat} {F:List Fact} {D:DF} {K:KK} {k:KS} {c:Code}
variable {F0:List Fact} {e m' sz:Nat} {xs':List Value}
theorem Nr {cl:Call} {f:Operand} {g d:Nat} {fi ca:List PV} {us:List TV} {args:Nm->Value->List Value} {m:Nat} {xs:List Value} {a:Option Addr} {cap:Nat} {ro:List (Nat×List SV×TypeId)} (j:Nat) (rk:List Nat) (hj:Ah L j=some (.own (.slice a m cap) e sz m xs))
  (ho:o.op=.call cl) (hc:cl.callee=.value f) (hf:Va T f=some (g,fi,ca)) (hus:Rg T cl.args.toList=some us) (hfn:Ah X.tab.fn g=some ()) (hro:W4 L rk=some ro) (hargs:∀ρ,Gn ρ fi us ca=args ρ (.slice a m cap)) (hd:o.dst=some d) (hdk:Nat.blt d X.k=true)
  (ct:∀ρ,CoW X.P g (args ρ) ((Mh ρ ro).map (λx=>B9 x.1 x.2.1 x.2.2)++F0) e sz m xs m' xs') (hF0:∀f∈F0,f∈F)
  (h:∀a' c',k ((d,.o (.v (.slice a' m' c')))::T) ((j,.own (.slice a' m' c') e sz m' xs')::L) n F D):OJs X o T L n F D k K:=by
 intro Q hQ Φ hΦ ac w hr;obtain⟨A,ρ,h0⟩:=hr.one;obtain⟨hro1,hro2⟩:=Vo hro;refine Oper.wpIn_of_run (by simp[Cw,ho]) ?_;rw[Qa h0.toVw ho hc hf hus hfn,hargs ρ];refine⟨λhd=>by simp[Fx.fe,Fence.wide] at hd,?_⟩;have hC:=ct ρ (λb=>A b\/∃x∈ro,ρ x.1=b) w a cap (h0.lo j _ hj) (λb hb hA=>?_) (λb hb=>?_) λfa hfa=>?_
 ·refine Mk (show CallsIn X.fe (X.nn- 1) X.P g (args ρ (.slice a m cap)).toArray w _ from⟨trivial,((Fz (n:=X.nn- 1)).2 hC).2⟩) ?_;rintro en w' ⟨a',c',rfl,hown,far,hk⟩;refine hΦ _ _ _ _ _ (h a' c') _ w' ((hr.own hj hown ⟨hk.os,hk.tape,hk.output,hk.size,λb hb hn=>hk.keep b hb λhm=>?_⟩ far).put (u:=.o (.v (.slice a' m' c'))) (λ_ _ _=>I) ?_)
  ·rw[S6] at hm;exact hn hm.symm
  ·simp only[E7,hd,hdk,Ci]
 ·rcases hA with hA|⟨x,hx,hxb⟩
  ·exact(h0.a2 b hA).2 j _ hj hb
  ·have:=h0.ds x.1 j _ _ b (hro2 x hx) hj (by simp only[LC.blk];rw[hxb]) hb;have h2:=hro2 x hx;rw[this,hj] at h2;cases h2
 ·rcases hb with hb|⟨x,hx,rfl⟩
  ·exact(h0.a2 b hb).1
  ·exact LC.lt (h0.lo x.1 _ (hro2 x hx)) I
 ·rcases B4.1 hfa with hfa|hfa
  ·obtain⟨x,hx,rfl⟩:=Cd.1 hfa;obtain⟨y,hy,rfl⟩:=Cd.1 hx;exact⟨.inr ⟨y,hy,I⟩,h0.lo y.1 _ (hro2 y hy)⟩
  ·exact fa.ok (λ_ h=>.inl h) (λ_ _=>I) (Grow.refl _) (h0.a3 fa (hF0 fa hfa))
theorem ED {α:Type} {enc:α->List Value} {ys:List α} {cl:Call} {f:Operand} {g:Nat} {fi ca:List PV} {us:List TV} {m:Nat} {cells:List Value} {v:Value} {Out:Gx} (j:Nat) (hj:Ah L j=some (.own v e sz m cells)) (hm:m=ys.length) (hcl:cells=ys.flatMap enc) (henc:∀x,(enc x).length=sz)
  (ho:o.op=.call cl) (hc:cl.callee=.value f) (hf:Va T f=some (g,fi,ca)) (hus:Rg T cl.args.toList=some us) (hfn:Ah X.tab.fn g=some ())
  (ct:∀ρ,Cm X.P g (Gn ρ fi us ca) [] (slF enc sz v ys::F0) Out) (hF0:∀f∈F0,f∈F) (hno:∀e cs F1,Out e cs F1->F1=[])
  (h:∀e cs,Out e cs []->Ww X o T L n [] F D k K e):OJs X o T L n F D k K:=by
 subst hm hcl;intro Q hQ Φ hΦ ac w hr;obtain⟨A,ρ,h0⟩:=hr.one;refine Oper.wpIn_of_run (by simp[Cw,ho]) ?_;rw[Qa h0.toVw ho hc hf hus hfn];refine⟨λhd=>by simp[Fx.fe,Fence.wide] at hd,?_⟩;have hown:=h0.lo j _ hj;have hC:=ct ρ (λb=>A b\/v.ownBlock=some b) w tqS (λx hx=>by cases hx) (λb hb=>?_) λfa hfa=>?_
 ·refine Mk (show CallsIn X.fe (X.nn- 1) X.P g (Gn ρ fi us ca).toArray w _ from⟨trivial,((Fz (n:=X.nn- 1)).2 hC).2⟩) ?_;rintro en w' ⟨cs,F1,hout,hkp,_,_,_⟩;cases hno _ _ _ hout;have rel:Rel X T L n ([]++F) D ac w':=by
   obtain⟨hkb,ρ1,A1,hr1⟩:=hr;refine⟨hkb,ρ1,A1,λρ2 hρ=>?_⟩;have h1:=hr1 ρ2 hρ;have kp:∀b,b<w.heap.size->w'.heap[b]? =w.heap[b]?:=λb hb=>hkp.keep b hb tqS;exact⟨⟨h1.tm,λk e hk=>LC.keep (w:=w) (h1.lo k e hk) λb hb=>kp b (LC.lt (h1.lo k e hk) hb),λf hf=>f.ok (w:=w) (λ_ h=>h) (λb hb=>kp b (h1.a2 b hb).1) hkp.grow (h1.a3 f hf)⟩,h1.sz,h1.df,⟨hkp.os.trans h1.kp.os,hkp.tape.trans h1.kp.tape,hkp.output.trans h1.kp.output,Bf h1.kp.size hkp.size,λb hb hm=>(kp b (Aw hb h1.kp.size)).trans (h1.kp.keep b hb hm)⟩,h1.nw,h1.ds,h1.a1,λb hb=>⟨Aw (h1.a2 b hb).1 hkp.size,(h1.a2 b hb).2⟩,h1.mb⟩
  have hk:=h en cs hout;cases en with
  |returned v=>
   simp only[Ww] at hk;split at hk
   ·rename_i T' hp;exact hΦ _ _ _ _ _ hk _ w' (rel.put (λ_ _ _=>I) hp)
   ·exact hk.elim
  |panicked ch=>exact hQ _ _ _ _ _ _ hk ac w' rel
  |outgrown=>exact hk.elim
 ·rcases hb with hb|hb
  ·exact(h0.a2 b hb).1
  ·exact LC.lt (h0.lo j _ hj) hb
 ·rcases Ap.1 hfa with rfl|hfa
  ·obtain⟨a',c',e1,e2,h3⟩:=Sl.of_owns henc hown;refine⟨a',c',e1,e2,h3.imp id ?_⟩;rintro ⟨b,off,h4,_,h6⟩;exact⟨b,off,h4,.inr (by rw[e1,h4];rfl),h6⟩
  ·exact fa.ok (λ_ h=>.inl h) (λ_ _=>I) (Grow.refl _) (h0.a3 fa (hF0 fa hfa))
def MS (X:Fx) (res:List ResultVar) (v0:Value) (e sz m':Nat) (xs':List Value) (T:TE) (L:LE) (n:Nat) (F:List Fact) (D:DF):Prop:=
 ∀a w,Rel X T L n F D a w->a.defers=[]/\∀fn:Func,fn.results.toList=res->∃a' c',(results fn a.tmps).run X.P w=.ok (.slice a' m' c') w/\w.ownsRow 0 e sz (.slice a' m' c') m' xs'/\(∀b,(Value.slice a' m' c').ownBlock=some b->v0.ownBlock=some b\/X.w0.heap.size<=b)/\Kp v0.ownBlock.toList X.w0 w
def Any (X:Fx) (res:List ResultVar) (v0:Value) (e sz m':Nat) (xs':List Value):KK:=λex T L n F D=>match ex with
 | .normal=>MS X res v0 e sz m' xs' T L n F D
 | .ret=>MS X res v0 e sz m' xs' T L n F D
 |_=>False
theorem Po {res:List ResultVar} {v0:Value} {a':Option Addr} {c':Nat} (j:Nat) (hj:Ah L j=some (.own (.slice a' m' c') e sz m' xs')) (hM:X.M=v0.ownBlock.toList) (hres:Vs X.tab T L res=some [.o (.v (.slice a' m' c'))]) (hD:D=λ_=>[]):MS X res v0 e sz m' xs' T L n F D:=by
 intro a w hr;obtain⟨A,ρ,h0⟩:=hr.one;refine⟨by rw[h0.df,hD],λfn hfn=>⟨a',c',Mj h0.toVw (by rw[hfn];exact hres),h0.lo j _ hj,λb hb=>?_,by rw[<-hM];exact h0.kp⟩⟩;rcases h0.nw j _ b hj hb with h|h
 ·rw[hM,S6] at h;exact .inl h
 ·exact .inr h
theorem Py {res:List ResultVar} {v0:Value} {σ:Sg} (hw:Wk X T L n F D σ) (h:MS X res v0 e sz m' xs' σ.T σ.L σ.n σ.F σ.D):MS X res v0 e sz m' xs' T L n F D:=λa w hr=>h a w (hw a w hr)
theorem JW {P:Program} {tab:Tab} {ok:tab.Ok P} {g:Nat} {fn:Func} {body:Code} {args:Value->List Value} {m:Nat} {xs:List Value} {k:Nat} (us:Value->List TV) (hf:P.funcs[g]? =some fn) (hk:fn.ntmps=k) (hb:fn.body=some body) (hul:∀v,Nat.ble (us v).length k=true)
  (hargs:∀v (ρ:Nm),(us v).map (TV.den ρ)=args v)
  (h:∀w0 A0 a cap,sx ⟨P,tab,ok,none,8,k,w0,A0,(Value.slice a m cap).ownBlock.toList,[]⟩ body (U8 0 (us (.slice a m cap))) [(0,.own (.slice a m cap) e sz m xs)] 1 F0 (λ_=>[]) (Any ⟨P,tab,ok,none,8,k,w0,A0,(Value.slice a m cap).ownBlock.toList,[]⟩ fn.results.toList (.slice a m cap) e sz m' xs')):CoW P g args F0 e sz m xs m' xs':=by
 intro A w a cap hown hA hAl hF;refine(Fz (n:=8)).1 (T4 hf hb trivial ?_ I);rw[hk];have hk2:(us (.slice a m cap)).length<=k:=by have:=hul (.slice a m cap);rwa[G6] at this
 have hll:(args (.slice a m cap)).length=(us (.slice a m cap)).length:=by rw[<-hargs _ λ_=>0];simp
 refine Ht (h w A a cap) _ ?_ _ _ ?_
 ·intro ex T L n F D hK a' w' hr;cases ex with
  |normal=>
   obtain⟨h1,h2⟩:=hK a' w' hr;obtain⟨a2,c2,h3,h4⟩:=h2 fn I;exact⟨h1,_,h3,a2,c2,I,h4⟩
  |ret=>
   obtain⟨h1,h2⟩:=hK a' w' hr;obtain⟨a2,c2,h3,h4⟩:=h2 fn I;exact⟨h1,_,h3,a2,c2,I,h4⟩
  |panic ch=>exact hK.elim
  |exit id=>exact hK.elim
  |goto l=>exact hK.elim
  |outgrown=>exact hK.elim
 ·have one:∀ {k':Nat} {e':LC},Ah [(0,LC.own (.slice a m cap) e sz m xs)] k'=some e'->k'=0/\e'=.own (.slice a m cap) e sz m xs:=by
   intro k' e' hk';rw[As] at hk';split at hk'
   ·rename_i ek;cases hk';exact⟨ek,I⟩
   ·cases hk'
  refine⟨λk' e' hk'=>by rw[(one hk').1];exact Nat.zero_lt_one,λ_=>0,A,λρ _=>⟨⟨?_,λk' e' hk'=>?_,hF⟩,by simp;omega,I,Kp.refl _ _,λk' e' b hk' hb'=>?_,λk1 k2 e1 e2 b hk1 hk2 _ _=>by rw[(one hk1).1,(one hk2).1],λb hb'=>.inl hb',λb hb'=>⟨hAl b hb',λk' e' hk' hbk=>?_⟩,λi b hi=>(by cases hi)⟩⟩
  ·intro t x hx;obtain⟨j,rfl,hj⟩:=Rh hx;rw[Bl,<-hargs _ ρ,Bp,Iq (by simpa using (Aa.1 hj).1),Ic,Cq,hj];rfl
  ·obtain⟨rfl,rfl⟩:=one hk';exact hown
  ·obtain⟨rfl,rfl⟩:=one hk';exact .inl (by rw[S6];exact hb')
  ·obtain⟨rfl,rfl⟩:=one hk';exact hA b hbk hb'
end
section
variable {X:Fx} {o:Oper} {T:TE} {L:LE} {n:Nat} {F:List Fact} {D:DF} {K:KK} {k:KS} {c:Code}
theorem Air (F':List Fact) (hF:∀A w,(∀f∈F,f.h A w)->∀f∈F',f.h A w):Wk X T L n F D ⟨T,L,n,F',D⟩:=λ_ _ hr=>hr.more λA=>hF A _
theorem Rel.litOwn {t j m:Nat} {e:TypeId} {sz:Nat} {cells:List Value} {a:Act} {w:World} (hr:Rel X T L n F D a w) (ht:Ah T t=some (.o (.s j 0 m m))) (hj:Ah L j=some (.c (cells.map SV.v) e)) (hl:cells.length=m*sz) (hm:m<=maxLen):
  ∃g,Rel X ((t,.o (.v (.slice (some ⟨g,0,none⟩) m m)))::T) ((j,.own (.slice (some ⟨g,0,none⟩) m m) e sz m cells)::L) n F D a w:=by
 obtain⟨hkb,ρ0,A,h0⟩:=hr;have hjn:=hkb j _ hj;have hb0:=h0 ρ0 λ_ _=>I;have hcell:w.heap[ρ0 j]? =some (.cells cells.toArray e (0,0)):=by
  have:=hb0.lo j _ hj;simp only[LC.holds,Ji] at this;exact this
 have hblk:∀ρ:Nm,(∀i,i<n->ρ i=ρ0 i)->∀k' e',Ah ((j,LC.own (.slice (some ⟨ρ0 j,0,none⟩) m m) e sz m cells)::L) k'=some e'->∃e0,Ah L k'=some e0/\e'.blk ρ k'=e0.blk ρ k':=by
  intro ρ hρ k' e' hk';rw[As] at hk';split at hk'
  ·rename_i ek;cases hk';subst ek;exact⟨_,hj,by simp only[LC.blk,Value.ownBlock];rw[hρ _ hjn]⟩
  ·exact⟨e',hk',I⟩
 refine⟨ρ0 j,λk' e' hk'=>?_,ρ0,A,λρ hρ=>?_⟩
 ·obtain⟨e0,h1,_⟩:=hblk ρ0 (λ_ _=>I) k' e' hk';exact hkb k' e0 h1
 have h1:=h0 ρ hρ;refine⟨⟨λt' x hx=>?_,λk' e' hk'=>?_,h1.a3⟩,h1.sz,h1.df,h1.kp,λk' e' b hk' hb=>?_,λk1 k2 f1 f2 b hk1 hk2 hb1 hb2=>?_,h1.a1,λb hb=>⟨(h1.a2 b hb).1,λk' e' hk' hbk=>?_⟩,h1.mb⟩
 ·rw[As] at hx;split at hx
  ·rename_i et;cases hx;subst et;rw[h1.tm _ _ ht];simp only[TV.den,SV.den];rw[hρ _ hjn]
  ·exact h1.tm t' x hx
 ·rw[As] at hk';split at hk'
  ·cases hk';refine⟨hl,.inr ⟨ρ0 j,m,cells.toArray,I,Ax _,hcell,Ak _,hm,by simpa using hl,?_⟩⟩;rw[V3,<-hl,D3]
  ·exact h1.lo k' e' hk'
 ·obtain⟨e0,g1,g2⟩:=hblk ρ hρ k' e' hk';exact h1.nw k' e0 b g1 (by rw[<-g2];exact hb)
 ·obtain⟨e0,g1,g2⟩:=hblk ρ hρ k1 f1 hk1;obtain⟨e0',g1',g2'⟩:=hblk ρ hρ k2 f2 hk2;exact h1.ds k1 k2 e0 e0' b g1 g1' (by rw[<-g2];exact hb1) (by rw[<-g2'];exact hb2)
 ·obtain⟨e0,g1,g2⟩:=hblk ρ hρ k' e' hk';exact(h1.a2 b hb).2 k' e0 g1 (by rw[<-g2];exact hbk)
theorem J6 {j m:Nat} {e:TypeId} (t:Nat) (sz:Nat) (cells:List Value) (h:∀g,OJs X o ((t,.o (.v (.slice (some ⟨g,0,none⟩) m m)))::T) ((j,.own (.slice (some ⟨g,0,none⟩) m m) e sz m cells)::L) n F D k K) (ht:Ah T t=some (.o (.s j 0 m m)):=by exact I) (hj:Ah L j=some (.c (cells.map SV.v) e):=by exact I) (hl:cells.length=m*sz:=by exact I) (hm:m<=maxLen:=by exact tqD):OJs X o T L n F D k K:=by
 intro Q hQ Φ hΦ a w hr;obtain⟨g,hr'⟩:=hr.litOwn ht hj hl hm;exact h g Q hQ Φ hΦ a w hr'
theorem Ca {t e:TypeId} {x y:Operand} {sz by_ m d:Nat} {zs:List Nat} {ki kj:IntKind} {zz:Int} (h:∀a',k ((d,.o (.v (.slice a' m m)))::T) ((n,.own (.slice a' m m) e sz m (madeCells (zs.map Te).toArray (m*sz)).toList)::L) (n+1) F D) (hzz:zz=(m:Int):=by exact I) (ho:o.op=.makeSlice t x y:=by exact I) (hel:Ah X.tab.el t=some (e,sz):=by exact I) (hze:Ah X.tab.ze e=some zs:=by exact I) (hby:Ah X.tab.by_ e=some by_:=by exact I) (hx:evS T x=some (.o (.v (.int ki zz))):=by exact I) (hy:evS T y=some (.o (.v (.int kj zz))):=by exact I) (hd:o.dst=some d:=by exact I) (hdk:Nat.blt d X.k=true:=by exact I) (hb:by_*m<=281474976710656:=by exact tqO) (h63:m<=maxLen:=by exact tqM):OJs X o T L n F D k K:=by
 subst hzz;intro Q hQ Φ hΦ a w hr;obtain⟨A,ρ,h0⟩:=hr.one;refine Oper.wpIn_of_run (by simp[Cw,ho]) ?_;obtain⟨ht,i,hi,his⟩:=Jg (X.ok.el _ _ hel);obtain⟨i',z,hi',hz1,hz2⟩:=Ts (X.ok.ze _ _ hze);simp only at ht hi his;rw[hi] at hi';cases hi';have hyb:i.bytes=by_:=by
  have:=X.ok.by_ _ _ hby;unfold tyY at this;rw[hi] at this;simpa using this
 have hzc:z.cells=(zs.map Te).toArray:=by
  rw[hz2 ρ];simp only[C4,Nz,Fp];rfl
 obtain⟨w',hrun,hown,hg⟩:=run_make_full (P:=X.P) w w.heap.size t e i z sz ht hi hz1 his ki kj m (by rw[hyb];exact hb) h63 (Ak _);have e1:=h0.ev hx;have e2:=h0.ev hy;simp only[TV.den,SV.den] at e1 e2;have e3:(execOp a.eval o).run X.P w=.ok (.value (.slice (some ⟨w.heap.size,0,none⟩) m m)) w':=by
  simp only[execOp,ho,e1,e2,Ba,hrun,An,Bh]
 rw[e3];rw[hzc] at hown;refine hΦ _ _ _ _ _ (h _) _ w' ((hr.newRow ⟨hg.os,hg.tape,hg.output,hg.size,λb hb'=>hg.block b hb' tqS⟩ hown).put (u:=.o (.v (.slice (some ⟨w.heap.size,0,none⟩) m m))) (λ_ _ _=>I) ?_);simp only[E7,hd,hdk,Ci]
end
def Ab0 (n:Nat) (T:TE):List Nat->TE->Prop
 |_,[]=>True
 |seen,(t,u)::rest=>(seen.any (Nat.beq t)=true\/(u.lt n=true/\Ah T t=some u))/\Ab0 n T (t::seen) rest
def Aby (n:Nat) (L:LE):List Nat->LE->Prop
 |_,[]=>True
 |seen,(k,e)::rest=>(seen.any (Nat.beq k)=true\/(Nat.blt k n=true/\e.lt' n=true/\Ah L k=some e))/\Aby n L (k::seen) rest
theorem LY {n:Nat} {T:TE}:∀ {T':TE} {seen:List Nat} {t:Nat} {u:TV},Ab0 n T seen T'->¬t∈seen->Ah T' t=some u->u.lt n=true/\Ah T t=some u
 | [],_,_,_,_,_,h=>by simp[Ah] at h
 |(t',u')::r,seen,t,u,hs,hn,h=>by
  rw[As] at h;split at h
  ·rename_i e;cases h;subst e;rcases hs.1 with h1|h1
   ·obtain⟨x,hx,he⟩:=Jr.1 h1;rw[Es] at he;exact absurd (he ▸ hx) hn
   ·exact h1
  ·rename_i e;exact LY hs.2 (λhm=>(Ap.1 hm).elim e hn) h
theorem LW {n:Nat} {L:LE}:∀ {L':LE} {seen:List Nat} {k:Nat} {e:LC},Aby n L seen L'->¬k∈seen->Ah L' k=some e->k<n/\e.lt' n=true/\Ah L k=some e
 | [],_,_,_,_,_,h=>by simp[Ah] at h
 |(k',e')::r,seen,k,e,hs,hn,h=>by
  rw[As] at h;split at h
  ·rename_i ek;cases h;subst ek;rcases hs.1 with h1|h1
   ·obtain⟨x,hx,he⟩:=Jr.1 h1;rw[Es] at he;exact absurd (he ▸ hx) hn
   ·exact⟨by simpa [Gr] using h1.1,h1.2⟩
  ·rename_i ek;exact LW hs.2 (λhm=>(Ap.1 hm).elim ek hn) h
section
variable {X:Fx} {T:TE} {L:LE} {n:Nat} {F:List Fact} {D:DF} {K:KK} {c:Code}
theorem Aae {x:TV}:x.ren idN=x:=by
 have hs:∀xs:List SV,xs.map (SV.ren idN)=xs:=λxs=>by
  conv=>rhs;rw[<-List.map_id xs]
  exact Gv λx _=>Sn
 cases x with
 |o x=>exact Fb TV.o Sn
 |t xs=>exact Fb TV.t (hs xs)
 |g xs=>exact Fb TV.g (hs xs)
variable {n':Nat}
theorem Rel.weakL {a:Act} {w:World} {T':TE} {L':LE} {F':List Fact} {D':DF} (h:Rel X T L n F D a w) (hT:∀t u,Ah T' t=some u->u.lt n'=true/\Ah T t=some u) (hL:∀k e,Ah L' k=some e->k<n'/\e.lt' n'=true/\Ah L k=some e)
  (hF:∀A:Nat->Prop,(∀f∈F,f.h A w)->∀f∈F',f.h A w) (hD:∀ρ ρ':Nm,(∀j,j<n'->ρ' j=ρ j)->D' ρ'=D ρ) (hM:X.N.length<=n'):Rel X T' L' n' F' D' a w:=by
 obtain⟨hkb,ρ0,A,h0⟩:=h;refine⟨λk e hk=>(hL k e hk).1,ρ0,A,λρ hρ=>?_⟩;have h1:=h0 ρ0 λ_ _=>I;have bl:∀k e b,Ah L' k=some e->e.blk ρ k=some b->Ah L k=some e/\e.blk ρ0 k=some b:=by
  intro k e b hk hb;obtain⟨h2,h3,h4⟩:=hL k e hk;exact⟨h4,by rw[<-LC.blk_congr (hρ k h2)];exact hb⟩
 refine⟨⟨?_,?_,hF A h1.a3⟩,h1.sz,by rw[h1.df,hD ρ0 ρ hρ],h1.kp,?_,?_,h1.a1,?_,?_⟩
 ·intro t u hu;obtain⟨h2,h3⟩:=hT t u hu;have:=TV.ren_den (r:=idN) hρ h2;rw[Aae] at this;rw[this];exact h1.tm t _ h3
 ·intro k e hk;obtain⟨h2,h3,h4⟩:=hL k e hk;exact Tm hρ h3 h2 (h1.lo _ _ h4)
 ·intro k e b hk hb;obtain⟨h2,h3⟩:=bl k e b hk hb;exact h1.nw _ _ b h2 h3
 ·intro k k' e e' b hk hk' hb hb';obtain⟨h2,h3⟩:=bl k e b hk hb;obtain⟨h2',h3'⟩:=bl k' e' b hk' hb';exact h1.ds _ _ _ _ b h2 h2' h3 h3'
 ·intro b hb;refine⟨(h1.a2 b hb).1,λk e hk hbk=>?_⟩;obtain⟨h2,h3⟩:=bl k e b hk hbk;exact(h1.a2 b hb).2 _ _ h2 h3
 ·intro i b hib;have hi':=(Aa.1 hib).1;rw[hρ i tqO];exact h1.mb i b hib
theorem Ac {T':TE} {L':LE} {F':List Fact} {D':DF} (hT:Ab0 n' T [] T':=by exact tqA) (hL:Aby n' L [] L':=by exact tqA) (hF:∀f∈F',f∈F:=by exact tqF) (hM:X.N.length<=n':=by exact tqS) (hD:∀ρ ρ':Nm,(∀j,j<n'->ρ' j=ρ j)->D' ρ'=D ρ:=by exact Ano):Wk X T L n F D ⟨T',L',n',F',D'⟩:=
 λ_ _ hr=>hr.weakL (λ_ _ h=>LY hT tqS h) (λ_ _ h=>LW hL tqS h) (λ_ h f hf=>h f (hF f hf)) hD hM
theorem Ano:∀ρ ρ':Nm,(∀j,j<n'->ρ' j=ρ j)->(λ_=>[]:DF) ρ'=(λ_=>[]:DF) ρ:=λ_ _ _=>I
theorem Tx {g ke kg:Nat} {ca:List PV} (h1:Nat.blt ke n'=true) (h2:ca.all (PV.ltn n')=true):∀ρ ρ':Nm,(∀j,j<n'->ρ' j=ρ j)->S8 g ke kg ca (λ_=>[]) ρ'=S8 g ke kg ca (λ_=>[]) ρ:=λ_ _ h=>Acr h h1 h2 I
theorem Br {γ:Type} (p:γ->Prop) (PT:γ->TE) (PL:γ->LE) (PF:γ->List Fact) (μ:γ->Nat) (g0:γ) (h0:p g0) (hw:Wk X T L n F D ⟨PT g0++T,PL g0++L,n,PF g0++F,D⟩)
  (hr:∀g,p g->sx X c (PT g++T) (PL g++L) n (PF g++F) D (Aar X p (λg=>⟨PT g++T,PL g++L,n,PF g++F,D⟩) μ g K)):CJs X (.loop c) T L n F D K:=
 ID p (λg=>⟨PT g++T,PL g++L,n,PF g++F,D⟩) μ g0 h0 hw hr
variable {o:Oper} {t:TypeId}
theorem Ee {parts:Array (Nat×Operand)} {zs:List Nat} {fs:List (Nat×Nat)} {cs:List SV} (ho:o.op=.build t parts:=by exact I) (hz:Ah X.tab.ze t=some zs:=by exact I) (hfs:Ah X.tab.fd t=some fs:=by exact I) (hcs:KG X.tab T fs (Nz zs) parts.toList=some cs:=by exact I):Yd X o T L F (.g cs):=by
 refine⟨by simp[Cw,ho],λA ρ a w h0=>?_⟩;obtain⟨i,z,hi,hz1,hz2⟩:=Ts (X.ok.ze _ _ hz);have hF:=X.ok.fd _ _ hfs;unfold tyF at hF;split at hF
 ·rename_i fl hfl;split at hF
  ·rename_i hall;cases hF;obtain⟨places,hp1,hp2⟩:=AH _ hall;have hfill:=DT h0 (place:=(places.toArray[·]?)) (λi p hp kd hkd=>by
    simp only[Cq,Dn] at hp;obtain⟨fd,hfd,rfl⟩:=hp;simpa using hp2 i fd kd hfd hkd) hcs
   have hb:X.P.built t (parts.map λ(i,x)=>(i,a.eval x)).toList=some (C4 ρ cs).toArray:=by
    unfold Program.built;simp only[hi,hfl,hz1,hp1,hz2 ρ];rw[Di];exact hfill
   simp only[execOp,ho,Ba,run_build w t _ _ hb,An,Bh,TV.den]
  ·cases hF
 ·cases hF
def Aag (P:Program) (t:TypeId):Bool:=match P.underlying t with|some .bool=>true|_=>false
theorem XX {P:Program} (h:Aag P t=true):P.underlying t=some .bool:=by
 unfold Aag at h;split at h
 ·assumption
 ·cases h
theorem U0 {t2:TypeId} {x y:Operand} {p q r:Bool} (ht:Aag X.P t=true) (hr:(p != q)=r) (ho:o.op=.binOp .neq t x y t2) (hx:evS T x=some (.o (.v (.bool p)))) (hy:evS T y=some (.o (.v (.bool q)))):Yd X o T L F (.o (.v (.bool r))):=by
 subst hr;refine⟨by simp[Cw,ho],λA ρ a w h0=>?_⟩;have e1:=h0.ev hx;have e2:=h0.ev hy;simp only[TV.den,SV.den] at e1 e2;have hgd:(eqGuard .neq t x y (.bool p) (.bool q)).run X.P w=.ok () w:=by
  unfold eqGuard;simp
 simp only[execOp,ho,e1,e2,Ba,hgd,An,TV.den,SV.den];have hu:=XX ht;have hq:(Op.equal t (.bool p) (.bool q)).run X.P w=.ok (p == q) w:=Td w 9999 t p q hu;cases p<;>cases q<;>simp[binOp,hq]
theorem R9 {t2:TypeId} {x y:Operand} {p q r:Bool} (ht:Aag X.P t=true) (hr:(p == q)=r) (ho:o.op=.binOp .eql t x y t2) (hx:evS T x=some (.o (.v (.bool p)))) (hy:evS T y=some (.o (.v (.bool q)))):Yd X o T L F (.o (.v (.bool r))):=by
 subst hr;refine⟨by simp[Cw,ho],λA ρ a w h0=>?_⟩;have e1:=h0.ev hx;have e2:=h0.ev hy;simp only[TV.den,SV.den] at e1 e2;have hgd:(eqGuard .eql t x y (.bool p) (.bool q)).run X.P w=.ok () w:=by
  unfold eqGuard;simp
 simp only[execOp,ho,e1,e2,Ba,hgd,An,TV.den,SV.den];have hu:=XX ht;have hq:(Op.equal t (.bool p) (.bool q)).run X.P w=.ok (p == q) w:=Td w 9999 t p q hu;cases p<;>cases q<;>simp[binOp,hq]
theorem Aaz {k:KS} (j:Nat) {a:Option Addr} {e:TypeId} {sz m cap:Nat} {cells:List Value} (hj:Ah L j=some (.own (.slice a m cap) e sz m cells)) (hm:0<m) (h:m<=cap->OJs X o T L n F D k K):OJs X o T L n F D k K:=by
 intro Q hQ Φ hΦ a' w hr;obtain⟨A,ρ,h0⟩:=hr.one;obtain⟨g,cur,_,_,h1,_⟩:=Vp (h0.lo j _ hj) hm;exact h h1 Q hQ Φ hΦ a' w hr
theorem Aic {α:Type} {enc:α->List Value} {k:Nat} {a:Option Addr} {m cap:Nat} {xs ys:List α} {A:Nat->Prop} {w:World} (h:(slF enc k (.slice a m cap) (xs++ys)).h A w):(slF enc k (.slice a xs.length cap) xs).h A w:=by
 obtain⟨a',c',h1,h2,h3⟩:=h;cases h1;refine⟨a,cap,I,⟨?_,h2.2⟩,?_⟩
 ·have:=h2.1;rw[Az] at this;omega
 ·rcases h3 with h3|⟨b,off,h4,h5,h6⟩
  ·exact .inl (List.append_eq_nil_iff.1 h3).1
  ·exact .inr ⟨b,off,h4,h5,λi x hx j u hu=>h6 i x (by rw[Eo (Aa.1 hx).1];exact hx) j u hu⟩
end
end Go.Proofs.YtjofafbkkpdgbaaGreat
