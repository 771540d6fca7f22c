/- A part of the proof of LockOpens: rules and contracts. No condition. -/
import Derived.Test.YtjofafbkkpdgbaaGreatPnaa
set_option maxRecDepth 100000
set_option maxHeartbeats 4000000
set_option linter.all false
namespace Go.Proofs.YtjofafbkkpdgbaaGreat
open Go.RowKit Go.Shelf
abbrev Nm:=Nat->Nat
inductive PV where
 |v (x:Value)
 |p (k o:Nat)
inductive SV where
 |v (x:Value)
 |p (k o:Nat)
 |s (k o l c:Nat)
 |f (fn:Fn) (fi ca:List PV)
inductive TV where
 |o (x:SV)
 |t (xs:List SV)
 |g (xs:List SV)
def PV.den (ρ:Nm):PV->Value
 | .v x=>x
 | .p k o=>.pointer (some ⟨ρ k,o,none⟩)
def SV.den (ρ:Nm):SV->Value
 | .v x=>x
 | .p k o=>.pointer (some ⟨ρ k,o,none⟩)
 | .s k o l c=>.slice (some ⟨ρ k,o,none⟩) l c
 | .f fn fi ca=>.func fn (fi.map (PV.den ρ)).toArray (ca.map (PV.den ρ)).toArray
def C4 (ρ:Nm) (xs:List SV):List Value:=xs.map (SV.den ρ)
def TV.den (ρ:Nm):TV->Value
 | .o x=>x.den ρ
 | .t xs=>.tuple (C4 ρ xs).toArray
 | .g xs=>.agg (C4 ρ xs).toArray
def SV.one:SV->Bool
 | .v x=>x.oneCell'
 |_=>true
variable {ρ:Nm}
theorem SV.one_den {x:SV} (h:x.one=true):(x.den ρ).oneCell'=true:=by
 cases x with
 |v x=>exact h
 |_=>rfl
theorem Agj {xs:List SV} (h:xs.all SV.one=true):∀v∈C4 ρ xs,v.oneCell'=true:=by
 intro v hv;obtain⟨x,hx,rfl⟩:=Cd.1 hv;exact SV.one_den (A6.1 h x hx)
def TV.cells:TV->Option (List SV)
 | .g xs=>some xs
 | .o (.v (.agg cs))=>some (cs.toList.map SV.v)
 | .o x=>bif x.one then some [x] else none
 | .t _=>none
theorem TV.cells_den {x:TV} {xs:List SV} (h:x.cells=some xs):(x.den ρ).cells=(C4 ρ xs).toArray:=by
 unfold TV.cells at h;split at h
 ·cases h;rfl
 ·cases h;simp only[TV.den,SV.den,Value.cells,C4,Fp];simp[Ll,SV.den]
 ·rename_i y hy;rw[Ew] at h;split at h
  ·rename_i h1;cases h;have h2:=SV.one_den (ρ:=ρ) h1;simp only[TV.den,C4,Bj,E4];cases he:y.den ρ<;>first|rfl|(rw[he] at h2;simp[Value.oneCell'] at h2)
  ·cases h
 ·cases h
def Ah {α:Type}:List (Nat×α)->Nat->Option α
 | [],_=>none
 |(k,x)::r,t=>bif Nat.beq t k then some x else Ah r t
theorem As {α:Type} (k:Nat) (x:α) (r:List (Nat×α)) (t:Nat):Ah ((k,x)::r) t=if t=k then some x else Ah r t:=by
 simp only[Ah,Ew,Es]
theorem Gs {α:Type} (k:Nat) (x:α) (r:List (Nat×α)):Ah ((k,x)::r) k=some x:=by rw[As,Bi I]
theorem Pv {α:Type} {p:Nat×α->Bool}:∀ {l:List (Nat×α)} {t:Nat} {x:α},l.all p=true->Ah l t=some x->p (t,x)=true
 |(k,y)::r,t,x,h,h2=>by
  simp only[Xz,Ad] at h;rw[As] at h2;split at h2
  ·rename_i e;cases h2;subst e;exact h.1
  ·exact Pv h.2 h2
structure Tab where
 kd:List (Nat×Option Nat)
 fd:List (Nat×List (Nat×Nat))
 ze:List (Nat×List Nat)
 el:List (Nat×(Nat×Nat))
 ar:List (Nat×(Nat×Nat×Nat))
 fn:List (Nat×Unit)
 by_:List (Nat×Nat)
def tyK (P:Program) (t:Nat):Option (Option Nat):=
 match P.underlying t,P.info? t with
 |some d,some i=>match d with
  | .struct _| .array _ _=>some (some i.size)
  |_=>if i.size=1 then some none else none
 |_,_=>none
def tyF (P:Program) (s:Nat):Option (List (Nat×Nat)):=
 match P.underlying s with
 |some (.struct fs)=>if fs.toList.all (λf=>(P.info? f.type).any (·.size != 0)) then some (fs.toList.map λf=>(f.offset,f.type)) else none
 |_=>none
def Te:Nat->Value
 |0=>.bool false
 |1=>.int .i64 0
 |2=>.int .u64 0
 |3=>.int .u8 0
 |4=>.int .i32 0
 |5=>.string ⟨#[]⟩
 |6=>.pointer none
 |7=>.slice none 0 0
 |8=>.map none
 |9=>.nilFunc
 |10=>.nilIface
 |_=>.chan none
def zeq:Nat->Value->Bool
 |0,.bool b=> !b
 |1,.int .i64 n=>n == 0
 |2,.int .u64 n=>n == 0
 |3,.int .u8 n=>n == 0
 |4,.int .i32 n=>n == 0
 |5,.string s=>s.data.isEmpty
 |6,.pointer none=>true
 |7,.slice none 0 0=>true
 |8,.map none=>true
 |9,.nilFunc=>true
 |10,.nilIface=>true
 |_,_=>false
variable {n:Nat} {v:Value}
theorem Ann (h:zeq n v=true):v=Te n:=by
 unfold zeq at h;split at h<;>first|(simp at h;done)|skip
 all_goals (try (simp only[Ei,Kq] at h;subst h;rfl))
 all_goals (try rfl)
 rename_i s;obtain⟨d⟩:=s;simp only[Array.isEmpty_iff] at h;subst h;rfl
def tyZ (P:Program) (t:Nat) (cs:List Nat):Bool:=
 match P.info? t with
 |some i=>match i.zero with
  |some z=>Nat.beq z.cells.size cs.length&&(z.cells.toList.zip cs).all λp=>zeq p.2 p.1
  |none=>false
 |none=>false
def Nz (cs:List Nat):List SV:=cs.map λn=>SV.v (Te n)
variable {P:Program} {t:Nat}
theorem Ts {cs:List Nat} (h:tyZ P t cs=true):∃i z,P.info? t=some i/\i.zero=some z/\∀ρ,z.cells=(C4 ρ (Nz cs)).toArray:=by
 unfold tyZ at h;split at h
 ·rename_i i hi;split at h
  ·rename_i z hz;rw[Ad] at h;refine⟨i,z,hi,hz,λρ=>?_⟩;have hl:z.cells.toList.length=cs.length:=by simpa using Bq h.1
   have key:∀(xs:List Value) (cs:List Nat),xs.length=cs.length->((xs.zip cs).all λp=>zeq p.2 p.1)=true->xs=C4 ρ (Nz cs):=by
    intro xs;induction xs with
    |nil=>intro cs h _;cases cs with|nil=>rfl|cons c cs=>simp at h
    |cons x xs ih=>
     intro cs h h2;cases cs with
     |nil=>simp at h
     |cons c cs=>
      simp only[List.zip_cons_cons,Xz,Ad] at h2;have:=ih cs (by simpa using h) h2.2;rw[Ann h2.1];simp only[Nz,C4,Bj,SV.den] at this⊢;rw[this]
   have:=key _ _ hl h.2;rw[<-this]
  ·cases h
 ·cases h
def tyE (P:Program) (t:Nat):Option (Nat×Nat):=
 match P.underlying t with
 |some (.slice e)=>match P.info? e with|some i=>some (e,i.size)|none=>none
 |_=>none
def tyA (P:Program) (t:Nat):Option (Nat×Nat×Nat):=
 match P.underlying t with
 |some (.array n e)=>match P.info? e with|some i=>some (n,e,i.size)|none=>none
 |_=>none
def tyB (P:Program) (g:Nat):Bool:=
 match P.funcs[g]? with
 |some fn=>fn.body.isSome&& !(fn.name == "runtime.NumGoroutine")
 |none=>false
def tyY (P:Program) (t:Nat):Option Nat:=
 match P.info? t with
 |some i=>some i.bytes
 |none=>none
def Tab.chk (T:Tab) (P:Program):Bool:=
 T.kd.all (λp=>tyK P p.1 == some p.2)&&T.fd.all (λp=>tyF P p.1 == some p.2)&&T.ze.all (λp=>tyZ P p.1 p.2)&&T.el.all (λp=>tyE P p.1 == some p.2)&&T.ar.all (λp=>tyA P p.1 == some p.2)&&T.fn.all (λp=>tyB P p.1)&&T.by_.all λp=>tyY P p.1 == some p.2
structure Tab.Ok (T:Tab) (P:Program):Prop where
 kd:∀t k,Ah T.kd t=some k->tyK P t=some k
 fd:∀t k,Ah T.fd t=some k->tyF P t=some k
 ze:∀t k,Ah T.ze t=some k->tyZ P t k=true
 el:∀t k,Ah T.el t=some k->tyE P t=some k
 ar:∀t k,Ah T.ar t=some k->tyA P t=some k
 fn:∀t k,Ah T.fn t=some k->tyB P t=true
 by_:∀t k,Ah T.by_ t=some k->tyY P t=some k
theorem Tab.ok {T:Tab} (h:T.chk P=true):T.Ok P:=by
 simp only[Tab.chk,Ad] at h;obtain⟨⟨⟨⟨⟨⟨h1,h2⟩,h3⟩,h4⟩,h5⟩,h6⟩,h7⟩:=h;exact⟨λt k e=>by simpa using Pv h1 e,λt k e=>by simpa using Pv h2 e,λt k e=>by simpa using Pv h3 e,λt k e=>by simpa using Pv h4 e,λt k e=>by simpa using Pv h5 e,λt k e=>by simpa using Pv h6 e,λt k e=>by simpa using Pv h7 e⟩
structure Grow (w w':World):Prop where
 os:w'.os=w.os
 tape:w'.tape=w.tape
 output:w'.output=w.output
 size:w.heap.size<=w'.heap.size
theorem Grow.refl (w:World):Grow w w:=⟨I,I,I,Ak _⟩
structure Fact where
 h:(Nat->Prop)->World->Prop
 ok:∀ {A A':Nat->Prop} {w w':World},(∀b,A b->A' b)->(∀b,A b->w'.heap[b]? =w.heap[b]?)->Grow w w'->h A w->h A' w'
def Fact.pure (p:Prop):Fact:=⟨λ_ _=>p,λ_ _ _ h=>h⟩
structure Kp (M:List Nat) (w w':World):Prop where
 os:w'.os=w.os
 tape:w'.tape=w.tape
 output:w'.output=w.output
 size:w.heap.size<=w'.heap.size
 keep:∀b,b<w.heap.size->b ∉ M->w'.heap[b]? =w.heap[b]?
theorem Kp.refl (M:List Nat) (w:World):Kp M w w:=⟨I,I,I,Ak _,λ_ _ _=>I⟩
theorem Kp.trans {M:List Nat} {a b c:World} (h:Kp M a b) (k:Kp M b c):Kp M a c:=
 ⟨k.os.trans h.os,k.tape.trans h.tape,k.output.trans h.output,Bf h.size k.size,λi h1 h2=>(k.keep i (Aw h1 h.size) h2).trans (h.keep i h1 h2)⟩
variable {w w':World}
theorem Kp.grow {M:List Nat} (h:Kp M w w'):Grow w w':=⟨h.os,h.tape,h.output,h.size⟩
theorem Kp.below (h:Kp [] w w'):Below w.heap.size w w':=⟨h.os,h.tape,h.output,h.size,λb hb=>h.keep b hb tqS⟩
theorem Kp.of_below (h:Below w.heap.size w w'):Kp [] w w':=⟨h.os,h.tape,h.output,h.size,λb hb _=>h.block b hb⟩
inductive LC where
 |c (cells:List SV) (t:TypeId)
 |own (x:Value) (e:TypeId) (sz n:Nat) (cells:List Value)
 |obj (o:Obj)
 |ob (g:Nat) (o:Obj)
 |dead
def LC.holds (ρ:Nm) (k:Nat) (w:World):LC->Prop
 | .c cells t=>w.heap[ρ k]? =some (.cells (C4 ρ cells).toArray t (0,0))
 | .own x e sz n cells=>w.ownsRow 0 e sz x n cells
 | .obj o=>w.heap[ρ k]? =some o
 | .ob g o=>w.heap[g]? =some o
 | .dead=>True
def LC.blk (ρ:Nm) (k:Nat):LC->Option Nat
 | .c _ _=>some (ρ k)
 | .own x _ _ _ _=>x.ownBlock
 | .obj _=>some (ρ k)
 | .ob g _=>some g
 | .dead=>none
variable {e:LC} {k:Nat}
theorem LC.keep (h:e.holds ρ k w) (hb:∀b,e.blk ρ k=some b->w'.heap[b]? =w.heap[b]?):e.holds ρ k w':=by
 cases e with
 |c cells t=>exact(hb _ I).trans h
 |obj o=>exact(hb _ I).trans h
 |ob g o=>exact(hb _ I).trans h
 |dead=>trivial
 |own x e sz n cells=>
  refine⟨h.1,?_⟩;rcases h.2 with h2|⟨g,cap,cur,rfl,hg,hh,rest⟩
  ·exact .inl h2
  ·exact .inr ⟨g,cap,cur,I,hg,(hb g (by simp[LC.blk,Value.ownBlock])).trans hh,rest⟩
theorem LC.lt {b:Nat} (h:e.holds ρ k w) (hb:e.blk ρ k=some b):b<w.heap.size:=by
 cases e with
 |c cells t=>cases hb;exact Dr h
 |obj o=>cases hb;exact Dr h
 |ob g o=>cases hb;exact Dr h
 |dead=>cases hb
 |own x e sz n cells=>
  rcases h.2 with ⟨rfl,_⟩|⟨g,cap,cur,rfl,hg,hh,rest⟩
  ·simp[LC.blk,Value.ownBlock] at hb
  ·simp only[LC.blk,Value.ownBlock,B7] at hb;subst hb;exact Dr hh
abbrev TE:=List (Nat×TV)
abbrev LE:=List (Nat×LC)
abbrev DF:=Nm->List Deferred
structure Fx where
 P:Program
 tab:Tab
 ok:tab.Ok P
 r:Option Nat
 nn:Nat
 k:Nat
 w0:World
 A0:Nat->Prop
 M:List Nat
 N:List Nat
def Fx.fe (X:Fx):Fence:= {Fence.wide with round:=X.r}
structure Vw (T:TE) (L:LE) (F:List Fact) (A:Nat->Prop) (ρ:Nm) (a:Act) (w:World):Prop where
 tm:∀t x,Ah T t=some x->a.tmps.getD t undef=x.den ρ
 lo:∀k e,Ah L k=some e->e.holds ρ k w
 a3:∀f∈F,f.h A w
structure Rel0 (X:Fx) (T:TE) (L:LE) (F:List Fact) (D:DF) (A:Nat->Prop) (ρ:Nm) (a:Act) (w:World):Prop extends Vw T L F A ρ a w where
 sz:a.tmps.size=X.k
 df:a.defers=D ρ
 kp:Kp X.M X.w0 w
 nw:∀k e b,Ah L k=some e->e.blk ρ k=some b->b∈X.M\/X.w0.heap.size<=b
 ds:∀k k' e e' b,Ah L k=some e->Ah L k'=some e'->e.blk ρ k=some b->e'.blk ρ k'=some b->k=k'
 a1:∀b,A b->X.A0 b\/X.w0.heap.size<=b
 a2:∀b,A b->b<w.heap.size/\∀k e,Ah L k=some e->e.blk ρ k≠some b
 mb:∀i b,X.N[i]? =some b->ρ i=b
def Rel (X:Fx) (T:TE) (L:LE) (n:Nat) (F:List Fact) (D:DF) (a:Act) (w:World):Prop:=
 (∀k e,Ah L k=some e->k<n)/\∃(ρ0:Nm) (A:Nat->Prop),∀ρ:Nm,(∀j,j<n->ρ j=ρ0 j)->Rel0 X T L F D A ρ a w
abbrev KK:=Exit->TE->LE->Nat->List Fact->DF->Prop
def Imp (X:Fx) (K:KK) (Q:Exit->Act->World->Prop):Prop:=∀e T L n F D,K e T L n F D->∀a w,Rel X T L n F D a w->Q e a w
def RLs (X:Fx) (ops:List Oper) (l:List Oper) (T:TE) (L:LE) (n:Nat) (F:List Fact) (D:DF) (K:KK):Prop:=
 ∀Q,Imp X K Q->∀a w,Rel X T L n F D a w->wpListIn X.fe X.nn X.P ops.toArray Q l a w
def CJs (X:Fx) (c:Code) (T:TE) (L:LE) (n:Nat) (F:List Fact) (D:DF) (K:KK):Prop:=
 ∀Q,Imp X K Q->∀a w,Rel X T L n F D a w->c.wpIn X.fe X.nn X.P Q a w
abbrev KS:=TE->LE->Nat->List Fact->DF->Prop
def OJs (X:Fx) (o:Oper) (T:TE) (L:LE) (n:Nat) (F:List Fact) (D:DF) (k:KS) (K:KK):Prop:=
 ∀Q,Imp X K Q->∀Φ:Act->World->Prop,(∀T' L' n' F' D',k T' L' n' F' D'->∀a w,Rel X T' L' n' F' D' a w->Φ a w)->∀a w,Rel X T L n F D a w->o.wpIn X.fe X.nn X.P a w Φ Q
variable {D:DF} {F:List Fact} {K:KK} {L:LE} {T:TE} {X:Fx} {ops:List Oper}
theorem Ald (h:K .normal T L n F D):RLs X ops [] T L n F D K:=
 λ_ hQ a w hr=>hQ _ _ _ _ _ _ h a w hr
def evS (T:TE):Operand->Option TV
 | .tmp t=>Ah T t
 | .const v=>some (.o (.v v))
 | .global g=>some (.o (.v (.pointer (some ⟨g,0,none⟩))))
 | .func f=>some (.o (.v (.func (.func f) #[] #[])))
variable {A:Nat->Prop} {a:Act} {u:TV}
theorem Vw.ev (h:Vw T L F A ρ a w) {x:Operand} (hx:evS T x=some u):a.eval x=u.den ρ:=by
 cases x with
 |tmp t=>exact h.tm t u hx
 |const v=>cases hx;rfl
 |global g=>cases hx;rfl
 |func f=>cases hx;rfl
variable {d:Nat}
theorem Ajz {xs:Array Value} (h:xs.getD d undef=v) (hu:v≠undef):xs[d]? =some v:=by
 rw[Bp] at h;cases hx:xs[d]? with
 |none=>rw[hx] at h;exact absurd h.symm hu
 |some y=>rw[hx] at h;simp at h;rw[h]
def Rp (ops:List Oper) (j:Nat) (T:TE):Option Bool:=
 match (ops[j]?).bind (·.dst) with
 |some d=>match Ah T d with
  |some (.o (.v (.bool c)))=>some c
  |_=>none
 |none=>none
variable {c:Bool} {j:Nat}
theorem Vw.guard (h:Vw T L F A ρ a w) (hg:Rp ops j T=some c):yielded ops.toArray a.tmps j=some c:=by
 unfold Rp at hg;split at hg
 ·rename_i d hd;split at hg
  ·rename_i c' hc;cases hg;have h1:=Ajz (h.tm d _ hc) (by simp[TV.den,SV.den,undef]);unfold yielded;rw[Ic,hd];simp[h1,TV.den,SV.den]
  ·cases hg
 ·cases hg
variable {o:Oper}
theorem Tt (h:o.guard=none) (y:Nat->Option Bool):Region.wanted o y=true:=by simp[Region.wanted,h]
theorem Ng {b:Bool} {y:Nat->Option Bool} (h:o.guard=some (j,b)) (hy:y j=some c):Region.wanted o y=(c == b):=by
 simp only[Region.wanted,h,hy];cases c<;>cases b<;>rfl
def E7 (k:Nat) (d:Option Nat) (u:TV) (T:TE):Option TE:=
 match d with
 |none=>some T
 |some d=>bif Nat.blt d k then some ((d,u)::T) else none
variable {T':TE}
theorem FY {d:Option Nat} (h:E7 k d u T=some T') (hs:a.tmps.size=k) (ht:∀t x,Ah T t=some x->a.tmps.getD t undef=x.den ρ) (hv:v=u.den ρ):
  ((a.put d v).tmps.size=k/\(a.put d v).defers=a.defers)/\∀t x,Ah T' t=some x->(a.put d v).tmps.getD t undef=x.den ρ:=by
 subst hv;unfold E7 at h;split at h
 ·cases h;exact⟨⟨hs,I⟩,ht⟩
 ·rename_i d;rw[Ew] at h;split at h
  ·rename_i hd;cases h;rw[Gr] at hd;refine⟨⟨by simpa [Act.put] using hs,I⟩,λt x hx=>?_⟩;rw[As] at hx;split at hx
   ·rename_i e;cases hx;subst e;simp[Act.put,Bp,hs,hd]
   ·rename_i e;have:=ht t x hx;rw[<-this];simp only[Act.put,Bp];rw[Dz λh=>e h.symm]
  ·cases h
def Cw (o:Oper):Bool:=match o.op with| .defer _=>false|_=>true
theorem CN (h:Cw o=true):∀c,o.op≠.defer c:=by
 intro c e;unfold Cw at h;rw[e] at h;cases h
theorem Oper.wpIn_of_run {K:Act->World->Prop} {Q:Exit->Act->World->Prop} (hd:Cw o=true) (h:o.uponIn X.fe X.nn X.P a K Q ((execOp a.eval o).run X.P w)):o.wpIn X.fe X.nn X.P a w K Q:=by
 refine⟨λ_ _=>trivial,?_⟩;rw[T3 _ _ _ (CN hd)];exact h
def Yd (X:Fx) (o:Oper) (T:TE) (L:LE) (F:List Fact) (u:TV):Prop:=Cw o=true/\∀A ρ a w,Vw T L F A ρ a w->(execOp a.eval o).run X.P w=.ok (.value (u.den ρ)) w
theorem Rel.put {d:Option Nat} (h:Rel X T L n F D a w) (hv:∀A ρ,Rel0 X T L F D A ρ a w->v=u.den ρ) (hp:E7 X.k d u T=some T'):Rel X T' L n F D (a.put d v) w:=by
 obtain⟨hkb,ρ0,A,h0⟩:=h;refine⟨hkb,ρ0,A,λρ hρ=>?_⟩;have h1:=h0 ρ hρ;obtain⟨⟨e1,e2⟩,e3⟩:=FY hp h1.sz h1.tm (hv A ρ h1);exact⟨⟨e3,h1.lo,h1.a3⟩,e1,by rw[e2];exact h1.df,h1.kp,h1.nw,h1.ds,h1.a1,h1.a2,h1.mb⟩
theorem Rel.one (h:Rel X T L n F D a w):∃A ρ,Rel0 X T L F D A ρ a w:=by
 obtain⟨_,ρ0,A,h0⟩:=h;exact⟨A,ρ0,h0 ρ0 λ_ _=>I⟩
variable {l:List Oper}
theorem Afb {k:KS} (hg:o.guard=none\/∃j b,o.guard=some (j,b)/\Rp ops j T=some b)
  (hk:∀T' L' n' F' D',k T' L' n' F' D'->RLs X ops l T' L' n' F' D' K) (h:OJs X o T L n F D k K):RLs X ops (o::l) T L n F D K:=by
 intro Q hQ a w hr;obtain⟨A,ρ,h0⟩:=hr.one;refine T6 λK' hK=>?_;have hw:Region.wanted o (yielded ops.toArray a.tmps)=true:=by
  rcases hg with hg|⟨j,b,hg,hj⟩
  ·exact Tt hg _
  ·rw[Ng hg (h0.guard hj)];simp
 rw[Bi hw];exact Oper.wpIn_mono (λa w=>hK a w) (h Q hQ _ (λT' L' n' F' D' hk' a w hr'=>hk T' L' n' F' D' hk' Q hQ a w hr') a w hr)
theorem Ah2 {b:Bool} (hg:o.guard=some (j,b)) (hj:Rp ops j T=some c) (hc:(c == b)=false)
  (hp:E7 X.k o.dst (.o (.v undef)) T=some T') (h:RLs X ops l T' L n F D K):RLs X ops (o::l) T L n F D K:=by
 intro Q hQ a w hr;obtain⟨A,ρ,h0⟩:=hr.one;refine T6 λK' hK=>?_;rw[Ar (by rw[Ng hg (h0.guard hj),hc];simp)];exact⟨λ_ _=>trivial,hK _ _ (h Q hQ _ w (hr.put (λ_ _ _=>I) hp))⟩
theorem Afc {b:Bool} {xs:Array Value} (hg:o.guard=some (j,b)) (hd:(ops[j]?).bind (·.dst)=some d)
  (hu:Ah T d=some (.o (.v (.tuple xs)))) (hp:E7 X.k o.dst (.o (.v undef)) T=some T') (h:RLs X ops l T' L n F D K):RLs X ops (o::l) T L n F D K:=by
 intro Q hQ a w hr;obtain⟨A,ρ,h0⟩:=hr.one;refine T6 λK' hK=>?_;have hy:yielded ops.toArray a.tmps j=none:=by
  have h1:=h0.tm d _ hu;unfold yielded;rw[Ic,hd];rw[Bp] at h1;cases hx:a.tmps[d]? with
  |none=>simp[hx]
  |some y=>rw[hx] at h1;simp at h1;simp[hx,h1,TV.den,SV.den]
 rw[Ar (by simp[Region.wanted,hg,hy])];exact⟨λ_ _=>trivial,hK _ _ (h Q hQ _ w (hr.put (λ_ _ _=>I) hp))⟩
theorem B8 {k:KS} {K:KK} (hy:Yd X o T L F u) (h:k T' L n F D) (hp:E7 X.k o.dst u T=some T':=by exact I):OJs X o T L n F D k K:=by
 intro Q hQ Φ hΦ a w hr;obtain⟨A,ρ,h0⟩:=hr.one;refine Oper.wpIn_of_run hy.1 ?_;have h1:=hy.2 A ρ a w h0.toVw;rw[h1];refine hΦ _ _ _ _ _ h _ w (hr.put (λA' ρ' h'=>?_) hp);have h2:=hy.2 A' ρ' a w h'.toVw;rw[h1] at h2;injection h2 with h3 h4
 injection h3 with h5
theorem NF {k:KS} {cells:List SV} {t:TypeId} (hd:Cw o=true)
  (hv:∀A ρ a w,Rel0 X T L F D A ρ a w->∃z,(execOp a.eval o).run X.P w=.ok (.value z) (w.alloc (.cells (C4 ρ cells).toArray t))/\∀ρ',ρ' n=w.heap.size->(∀j,j<n->ρ' j=ρ j)->z=u.den ρ')
  (hp:E7 X.k o.dst u T=some T') (h:k T' ((n,.c cells t)::L) (n+1) F D):OJs X o T L n F D k K:=by
 intro Q hQ Φ hΦ a w hr;obtain⟨hkb,ρ0,A,hr0⟩:=hr;have h0:=hr0 ρ0 λ_ _=>I;obtain⟨z,hz,hz'⟩:=hv A ρ0 a w h0;refine Oper.wpIn_of_run hd ?_;rw[hz];refine hΦ _ _ _ _ _ h _ _ ⟨λk e hk=>?_,λj=>if j=n then w.heap.size else ρ0 j,A,λρ hρ=>?_⟩
 ·rw[As] at hk;split at hk
  ·omega
  ·have:=hkb k e hk;omega
 have hn:ρ n=w.heap.size:=by simpa using hρ n tqO
 have hlt:∀j,j<n->ρ j=ρ0 j:=λj hj=>by simpa [Km hj] using hρ j tqO
 have h1:=hr0 ρ hlt;obtain⟨z2,hz2,hz2'⟩:=hv A ρ a w h1;have e2:w.alloc (.cells (C4 ρ0 cells).toArray t)=w.alloc (.cells (C4 ρ cells).toArray t):=by
  rw[hz] at hz2;injection hz2
 obtain⟨⟨e1,e2'⟩,e3⟩:=FY hp h1.sz h1.tm (hz' ρ hn hlt);have hW:X.w0.heap.size<=w.heap.size:=h1.kp.size;have old:∀b,b<w.heap.size->(w.alloc (.cells (C4 ρ0 cells).toArray t)).heap[b]? =w.heap[b]?:=λb hb=>Gw w _ b hb;have bl:∀k e b,Ah ((n,LC.c cells t)::L) k=some e->e.blk ρ k=some b->(k=n/\b=w.heap.size)\/(k≠n/\Ah L k=some e/\b<w.heap.size):=by
  intro k e b hk hb;rw[As] at hk;split at hk
  ·rename_i ek;cases hk;subst ek;simp only[LC.blk,B7,hn] at hb;exact .inl ⟨I,hb.symm⟩
  ·rename_i ek;exact .inr ⟨ek,hk,LC.lt (h1.lo k e hk) hb⟩
 refine⟨⟨e3,?_,λf hf=>f.ok (λ_ h=>h) (λb hb=>old b (h1.a2 b hb).1) ⟨I,I,I,tqS⟩ (h1.a3 f hf)⟩,e1,by rw[e2'];exact h1.df,h1.kp.trans ⟨I,I,I,tqS,λb hb _=>old b hb⟩,?_,?_,h1.a1,?_,h1.mb⟩
 ·intro k e hk;rw[As] at hk;split at hk
  ·rename_i ek;cases hk;subst ek;show (w.alloc _).heap[ρ k]? =_
   rw[hn,e2];exact E6 w _
  ·exact LC.keep (h1.lo k e hk) λb hb=>old b (LC.lt (h1.lo k e hk) hb)
 ·intro k e b hk hb;rcases bl k e b hk hb with ⟨_,rfl⟩|⟨_,h3,_⟩
  ·exact .inr hW
  ·exact h1.nw k e b h3 hb
 ·intro k k' e e' b hk hk' hb hb';rcases bl k e b hk hb with ⟨rfl,rfl⟩|⟨_,h3,h4⟩<;>rcases bl k' e' _ hk' hb' with ⟨rfl,_⟩|⟨_,h3',h4'⟩
  ·rfl
  ·omega
  ·omega
  ·exact h1.ds k k' e e' b h3 h3' hb hb'
 ·intro b hb;refine⟨by have:=(h1.a2 b hb).1;simp;omega,λk e hk hbk=>?_⟩;rcases bl k e b hk hbk with ⟨_,rfl⟩|⟨_,h3,_⟩
  ·have:=(h1.a2 _ hb).1;omega
  ·exact(h1.a2 b hb).2 k e h3 hbk
theorem Rel.setRow {cs cells:List SV} {t:TypeId} (hr:Rel X T L n F D a w)
  (hk:Ah L k=some (.c cs t)) (hw:∀A ρ,Rel0 X T L F D A ρ a w->w'=w.setRow (ρ k) (C4 ρ cells).toArray):Rel X T ((k,.c cells t)::L) n F D a w':=by
 obtain⟨hkb,ρ0,A,hr0⟩:=hr;refine⟨λk' e hk'=>?_,ρ0,A,λρ hρ=>?_⟩
 ·rw[As] at hk';split at hk'
  ·rename_i ek;rw[ek];exact hkb _ _ hk
  ·exact hkb _ _ hk'
 have h1:=hr0 ρ hρ;obtain rfl:=hw A ρ h1;have hkk:w.heap[ρ k]? =some (.cells (C4 ρ cs).toArray t (0,0)):=h1.lo k _ hk;have old:∀b,b≠ρ k->(w.setRow (ρ k) (C4 ρ cells).toArray).heap[b]? =w.heap[b]?:=λb hb=>Pr w _ _ _ hb;have bl:∀k' e b,Ah ((k,LC.c cells t)::L) k'=some e->e.blk ρ k'=some b->(k'=k/\b=ρ k)\/(k'≠k/\Ah L k'=some e/\b≠ρ k):=by
  intro k' e b hk' hb;rw[As] at hk';split at hk'
  ·rename_i ek;cases hk';subst ek;simp only[LC.blk,B7] at hb;exact .inl ⟨I,hb.symm⟩
  ·rename_i ek;refine .inr ⟨ek,hk',λeb=>ek ?_⟩;subst eb;exact h1.ds k' k e _ _ hk' hk hb I
 refine⟨⟨h1.tm,?_,λf hf=>f.ok (λ_ h=>h) (λb hb=>old b λe=>?_) ⟨I,I,I,by rw[Nf];exact Ak _⟩ (h1.a3 f hf)⟩,h1.sz,h1.df,?_,?_,?_,h1.a1,?_,h1.mb⟩
 ·intro k' e hk';rw[As] at hk';split at hk'
  ·rename_i ek;cases hk';subst ek;exact Qy w _ _ _ _ _ hkk
  ·rename_i ek;refine LC.keep (h1.lo k' e hk') λb hb=>old b λeb=>ek ?_;subst eb;exact h1.ds k' k e _ _ hk' hk hb I
 ·subst e;exact(h1.a2 _ hb).2 k _ hk I
 ·refine⟨h1.kp.os,h1.kp.tape,h1.kp.output,by rw[Nf];exact h1.kp.size,λb hb hm=>?_⟩;rw[old b ?_]
  ·exact h1.kp.keep b hb hm
  ·intro e;subst e;rcases h1.nw k _ _ hk I with h2|h2
   ·exact hm h2
   ·omega
 ·intro k' e b hk' hb;rcases bl k' e b hk' hb with ⟨rfl,rfl⟩|⟨_,h3,_⟩
  ·exact h1.nw _ _ _ hk I
  ·exact h1.nw k' e b h3 hb
 ·intro k1 k2 f1 f2 b hk1 hk2 hb1 hb2;rcases bl k1 f1 b hk1 hb1 with ⟨g1,g2⟩|⟨_,h3,h4⟩<;>rcases bl k2 f2 b hk2 hb2 with ⟨g3,g4⟩|⟨_,h3',h4'⟩
  ·rw[g1,g3]
  ·exact absurd g2 h4'
  ·exact absurd g4 h4
  ·exact h1.ds k1 k2 f1 f2 b h3 h3' hb1 hb2
 ·intro b hb;refine⟨by rw[Nf];exact(h1.a2 b hb).1,λk' e hk' hbk=>?_⟩;rcases bl k' e b hk' hbk with ⟨_,rfl⟩|⟨_,h3,_⟩
  ·exact(h1.a2 _ hb).2 k _ hk I
  ·exact(h1.a2 b hb).2 k' e h3 hbk
theorem Akm {kk:KS} {cs cells:List SV} {t:TypeId} (hd:Cw o=true) (ho:o.dst=none)
  (hk:Ah L k=some (.c cs t)) (hv:∀A ρ a w,Rel0 X T L F D A ρ a w->(execOp a.eval o).run X.P w=.ok .skip (w.setRow (ρ k) (C4 ρ cells).toArray))
  (h:kk T ((k,.c cells t)::L) n F D):OJs X o T L n F D kk K:=by
 intro Q hQ Φ hΦ a w hr;obtain⟨A,ρ0,h0⟩:=hr.one;have hz:=hv A ρ0 a w h0;refine Oper.wpIn_of_run hd ?_;rw[hz];have hput:a.put o.dst undef=a:=by rw[ho];rfl
 show Φ (a.put o.dst undef) _
 rw[hput];refine hΦ _ _ _ _ _ h _ _ (hr.setRow hk λA ρ h1=>?_);have hz2:=hv A ρ a w h1;rw[hz] at hz2;injection hz2
theorem Nx {k:Option Nat} (h:tyK P t=some k):∃d i,P.underlying t=some d/\P.info? t=some i/\i.size=k.getD 1/\∀w,(isAgg t).run P w=.ok k.isSome w:=by
 unfold tyK at h;split at h
 ·rename_i d i hd hi;refine⟨d,i,hd,hi,?_⟩;split at h
  ·cases h;exact⟨I,λw=>by simp[isAgg,At hd]⟩
  ·cases h;exact⟨I,λw=>by simp[isAgg,At hd]⟩
  ·rename_i h1 h2;split at h
   ·rename_i hs;cases h;refine⟨hs,λw=>?_⟩;simp only[isAgg,Ba,At hd,An];cases d<;>first|rfl|exact absurd rfl (h1 _)|exact absurd rfl (h2 _ _)
   ·cases h
 ·cases h
def Jq (kd:Option Nat) (cs:List Value) (o:Nat):Option Value:=
 match kd with
 |none=>cs[o]?
 |some m=>if o+m<=cs.length then some (.agg ((cs.drop o).take m).toArray) else none
variable {cs:List Value} {ty:TypeId}
theorem Iu {b o:Nat} {fr:Nat×Nat} (h:w.heap[b]? =some (.cells cs.toArray ty fr)):w.cell? ⟨b,o,none⟩=cs[o]?:=by
 simp[World.cell?,h]
variable {kd:Option Nat}
theorem Nt (hk:tyK P t=some kd) {b o:Nat} {fr:Nat×Nat} (h:w.heap[b]? =some (.cells cs.toArray ty fr)) (hv:Jq kd cs o=some v):
  (loadVar t ⟨b,o,none⟩).run P w=.ok v w:=by
 obtain⟨d,i,hd,hi,hs,ha⟩:=Nx hk;cases kd with
 |none=>
  have hc:=Iu (o:=o) h;simp only[Jq] at hv;simp only[loadVar,Ba,ha,An,K4,Hu,Mu,run_load,hc,hv]
 |some m=>
  simp only[Jq] at hv;split at hv
  ·rename_i hm;cases hv;have hl:((cs.drop o).take m).length=m:=by simp;omega
   have:=R7 (P:=P) w ⟨b,o,none⟩ ((cs.drop o).take m) (λj v hj=>by
    rw[show (⟨b,o,none⟩:Addr).add j=⟨b,o+j,none⟩ by unfold Addr.add;split<;>simp_all,Iu h];rw[Kz] at hj;split at hj
    ·simpa using hj
    ·cases hj)
   rw[hl] at this;simp only[Hz] at hs;simp only[loadVar,Ba,ha,An,Rd,If,sizeOf,typeInfo,J2,hi,Bh,hs,this]
  ·cases hv
def Pf (kd:Option Nat) (cs:List SV) (o:Nat):Option TV:=
 match kd with
 |none=>match cs[o]? with|some x=>some (.o x)|none=>none
 |some m=>bif Nat.ble (o+m) cs.length then some (.g ((cs.drop o).take m)) else none
theorem R2 {cs:List SV} {o:Nat} (h:Pf kd cs o=some u) (ρ:Nm):Jq kd (C4 ρ cs) o=some (u.den ρ):=by
 cases kd with
 |none=>
  simp only[Pf] at h;split at h
  ·rename_i x hx;cases h;simp[Jq,C4,hx,TV.den]
  ·cases h
 |some m=>
  simp only[Pf,Ew] at h;split at h
  ·rename_i hm;cases h;rw[G6] at hm;simp[Jq,C4,hm,TV.den,Ir,Ko]
  ·cases h
def pvS:TV->Option PV
 | .o (.v x)=>some (.v x)
 | .o (.p k o)=>some (.p k o)
 |_=>none
theorem Ak9 {p:PV} (h:pvS u=some p) (ρ:Nm):u.den ρ=p.den ρ:=by
 unfold pvS at h;split at h<;>cases h<;>rfl
def pvL (T:TE):List Operand->Option (List PV)
 | []=>some []
 |x::r=>match evS T x with
  |some u=>match pvS u with
   |some p=>match pvL T r with
    |some ps=>some (p::ps)
    |none=>none
   |none=>none
  |none=>none
theorem NM {T:TE} {L:LE} {F:List Fact} {A:Nat->Prop} {ρ:Nm} {a:Act} {w:World} (h:Vw T L F A ρ a w):∀ {l:List Operand} {ps:List PV},pvL T l=some ps->l.map a.eval=ps.map (PV.den ρ)
 | [],_,h2=>by cases h2;rfl
 |x::r,ps,h2=>by
  unfold pvL at h2;split at h2
  ·rename_i u hu;split at h2
   ·rename_i p hp;split at h2
    ·rename_i qs hq;cases h2;rw[Bj,Bj,h.ev hu,Ak9 hp,NM h hq]
    ·cases h2
   ·cases h2
  ·cases h2
def ikN:IntKind->Nat
 | .i8=>0| .i16=>1| .i32=>2| .i64=>3| .u8=>4| .u16=>5| .u32=>6| .u64=>7
theorem FT {a b:IntKind} (h:ikN a=ikN b):a=b:=by cases a<;>cases b<;>first|rfl|(simp[ikN] at h)
def Agf (op:BinOp) (a b:Int):Option Bool:=
 match op with
 | .eql=>some (a == b)
 | .neq=>some (a != b)
 | .lss=>some (decide (a<b))
 | .leq=>some (decide (a<=b))
 | .gtr=>some (decide (b<a))
 | .geq=>some (decide (b<=a))
 |_=>none
theorem Agg {op:BinOp} {k:IntKind} {a b:Int} (h:Agf op a b=some c) (t:TypeId) (w:World):(binOp op t (.int k a) (.int k b)).run P w=.ok (.bool c) w:=by
 unfold Agf at h;split at h<;>cases h<;>simp[binOp,Op.intCmp]
def Aiw (off:Nat):TV->Option TV
 | .o (.p k o)=>some (.o (.p k (o+off)))
 | .o (.v (.pointer (some ⟨b,o,none⟩)))=>some (.o (.v (.pointer (some ⟨b,o+off,none⟩))))
 |_=>none
def Amj:TV->Option TV
 | .o (.v (.slice _ n _))=>some (.o (.v (.int .i64 (n:Int))))
 | .o (.s _ _ n _)=>some (.o (.v (.int .i64 (n:Int))))
 |_=>none
def Al6 (u:TV) (i:Nat):Option TV:=
 match u with
 | .t xs=>match xs[i]? with|some x=>some (.o x)|none=>none
 | .o (.v (.tuple vs))=>match vs.toList[i]? with|some x=>some (.o (.v x))|none=>none
 |_=>none
def Acc (tab:Tab) (op:Op) (T:TE) (L:LE):Option TV:=
 match op with
 | .move x=>evS T x
 | .assign x=>evS T x
 | .unOp .not _ x=>match evS T x with
  |some (.o (.v (.bool b)))=>some (.o (.v (.bool (!b))))
  |_=>none
 | .binOp op _ x y _=>match evS T x,evS T y with
  |some (.o (.v (.int k a))),some (.o (.v (.int k' b)))=>bif Nat.beq (ikN k) (ikN k') then(match Agf op a b with|some c=>some (.o (.v (.bool c)))|none=>none) else none
  |_,_=>none
 | .extract x i=>match evS T x with
  |some u=>Al6 u i
  |none=>none
 | .makeFunc fn fi ca=>match pvL T fi.toList,pvL T ca.toList with
  |some a,some b=>some (.o (.f fn a b))
  |_,_=>none
 | .nilCheck x=>match evS T x with
  |some (.o (.p k o))=>some (.o (.p k o))
  |some (.o (.v (.pointer (some a))))=>some (.o (.v (.pointer (some a))))
  |some (.o (.f (.func g) a b))=>some (.o (.f (.func g) a b))
  |_=>none
 | .fieldAddr s x f=>match Ah tab.fd s with
  |some fs=>match fs[f]? with
   |some p=>match evS T x with
    |some u=>Aiw p.1 u
    |none=>none
   |none=>none
  |none=>none
 | .field s x f=>match Ah tab.fd s with
  |some fs=>match fs[f]? with
   |some p=>match Ah tab.kd p.2 with
    |some kd=>match evS T x with
     |some (.g xs)=>Pf kd xs p.1
     |some (.o (.v (.agg cs)))=>Pf kd (cs.toList.map SV.v) p.1
     |_=>none
    |none=>none
   |none=>none
  |none=>none
 | .load t x=>match Ah tab.kd t with
  |some kd=>match evS T x with
   |some (.o (.p k o))=>match Ah L k with
    |some (.c cells _)=>Pf kd cells o
    |_=>none
   |_=>none
  |none=>none
 | .call c=>match c.callee with
  | .builtin .len=>match c.args.toList,c.argTypes.toList with
   | [x],[t]=>match Ah tab.el t with
    |some _=>match evS T x with
     |some u=>Amj u
     |none=>none
    |none=>none
   |_,_=>none
  |_=>none
 |_=>none
theorem H5 (b o n:Nat):(⟨b,o,none⟩:Addr).add n=⟨b,o+n,none⟩:=by unfold Addr.add;split<;>simp_all
theorem Zw {s:Nat} {fs:List (Nat×Nat)} (h:tyF P s=some fs) {f:Nat} {p:Nat×Nat} (hf:fs[f]? =some p):∃fl:Array Field,P.underlying s=some (.struct fl)/\∃fd,fl[f]? =some fd/\fd.offset=p.1/\fd.type=p.2/\∃i,P.info? fd.type=some i/\i.size≠0:=by
 unfold tyF at h;split at h
 ·rename_i fl hfl;split at h
  ·rename_i hall;cases h;simp only[Cq,Dn] at hf;obtain⟨fd,hfd,rfl⟩:=hf;have h1:=A6.1 hall fd (Av hfd);obtain⟨i,hi,hi2⟩:=(Option.any_eq_true _ _).1 h1;exact⟨fl,hfl,fd,by simpa using hfd,I,I,i,by simpa using hi,by simpa using hi2⟩
  ·cases h
 ·cases h
theorem OV (ρ:Nm) (cs:Array Value):C4 ρ (cs.toList.map SV.v)=cs.toList:=by
 simp[C4,Fp,Ll,SV.den]
theorem Up (hk:tyK P t=some kd) {o:Nat} (hv:Jq kd cs o=some v) (w:World):(part t cs.toArray o).run P w=.ok v w:=by
 obtain⟨d,i,hd,hi,hs,ha⟩:=Nx hk;cases kd with
 |none=>
  simp only[Jq] at hv;simp[part,ha,hv]
 |some m=>
  simp only[Jq] at hv;split at hv
  ·rename_i hm;cases hv;simp only[Hz] at hs;simp only[part,Ba,ha,An,Rd,If,sizeOf,typeInfo,J2,hi,Bh,hs,List.extract_toArray]
   congr 3
   rw[List.extract_eq_take_drop]
   congr 2
   omega
  ·cases hv
theorem YT (h:Acc X.tab o.op T L=some u):Yd X o T L F u:=by
 unfold Acc at h;split at h;case h_1 x ho=>
  exact⟨by simp[Cw,ho],λA ρ a w h0=>by simp[execOp,ho,h0.ev h]⟩
 case h_2 x ho=>
  exact⟨by simp[Cw,ho],λA ρ a w h0=>by simp[execOp,ho,h0.ev h]⟩
 case h_3 t x ho=>
  split at h
  ·rename_i b hx;cases h;exact⟨by simp[Cw,ho],λA ρ a w h0=>by simp[execOp,ho,h0.ev hx,Op.unary,TV.den,SV.den]⟩
  ·cases h
 case h_4 op t x y t2 ho=>
  split at h
  ·rename_i k a' k' b' hx hy;rw[Ew] at h;split at h
   ·rename_i hk;have hk:=FT (Bq hk);subst hk;split at h
    ·rename_i c hc;cases h;refine⟨by simp[Cw,ho],λA ρ a w h0=>?_⟩;have e1:=h0.ev hx;have e2:=h0.ev hy;simp only[TV.den,SV.den] at e1 e2;have hgd:(eqGuard op t x y (.int k a') (.int k b')).run X.P w=.ok () w:=by
      unfold eqGuard;cases op<;>simp
     simp only[execOp,ho,e1,e2,Ba,hgd,An,Agg hc,Bh,TV.den,SV.den]
    ·cases h
   ·cases h
  ·cases h
 case h_5 x i ho=>
  split at h
  ·rename_i v hv;unfold Al6 at h;split at h
   ·split at h
    ·rename_i xs y hy;cases h;exact⟨by simp[Cw,ho],λA ρ a w h0=>by simp[execOp,ho,h0.ev hv,Instr.extract,TV.den,C4,hy]⟩
    ·cases h
   ·rename_i vs;split at h
    ·rename_i y hy;cases h;have hy2:vs[i]? =some y:=by simpa using hy
     exact⟨by simp[Cw,ho],λA ρ a w h0=>by simp[execOp,ho,h0.ev hv,Instr.extract,TV.den,SV.den,hy2]⟩
    ·cases h
   ·cases h
  ·cases h
 case h_6 fn fi ca ho=>
  split at h
  ·rename_i p q hp hq;cases h;refine⟨by simp[Cw,ho],λA ρ a w h0=>?_⟩;have e1:=NM h0 hp;have e2:=NM h0 hq;have f1:fi.map a.eval=(p.map (PV.den ρ)).toArray:=by apply Cn;rw[Di];exact e1
   have f2:ca.map a.eval=(q.map (PV.den ρ)).toArray:=by apply Cn;rw[Di];exact e2
   simp[execOp,ho,Instr.makeFunc,f1,f2,TV.den,SV.den]
  ·cases h
 case h_7 x ho=>
  split at h
  ·rename_i k o' hx;cases h;exact⟨by simp[Cw,ho],λA ρ a w h0=>by simp[execOp,ho,h0.ev hx,TV.den,SV.den]⟩
  ·rename_i o' hx;cases h;exact⟨by simp[Cw,ho],λA ρ a w h0=>by simp[execOp,ho,h0.ev hx,TV.den,SV.den]⟩
  ·rename_i g p q hx;cases h;exact⟨by simp[Cw,ho],λA ρ a w h0=>by simp[execOp,ho,h0.ev hx,TV.den,SV.den]⟩
  ·cases h
 case h_8 s x f ho=>
  split at h
  ·rename_i fs hfs;split at h
   ·rename_i p hp;split at h
    ·rename_i v hv;obtain⟨fl,h1,fd,h2,h3,h4,i,h5,h6⟩:=Zw (X.ok.fd _ _ hfs) hp;refine⟨by simp[Cw,ho],λA ρ a w h0=>?_⟩;unfold Aiw at h;split at h
     ·cases h;simp[execOp,ho,h0.ev hv,Instr.fieldAt,At h1,h2,TV.den,SV.den,Instr.sureAddr,fieldPlace,sizeOf,typeInfo,h5,h6,H5,h3]
     ·cases h;simp[execOp,ho,h0.ev hv,Instr.fieldAt,At h1,h2,TV.den,SV.den,Instr.sureAddr,fieldPlace,sizeOf,typeInfo,h5,h6,H5,h3]
     ·cases h
    ·cases h
   ·cases h
  ·cases h
 case h_9 s x f ho=>
  split at h
  ·rename_i fs hfs;split at h
   ·rename_i p hp;split at h
    ·rename_i kd hkd;obtain⟨fl,h1,fd,h2,h3,h4,i,h5,h6⟩:=Zw (X.ok.fd _ _ hfs) hp;have hK:=X.ok.kd _ _ hkd;rw[<-h4] at hK;refine⟨by simp[Cw,ho],λA ρ a w h0=>?_⟩;split at h
     ·rename_i xs hx;have:=Up hK (R2 h ρ) w;simp[execOp,ho,h0.ev hx,Instr.field,At h1,h2,TV.den,asAgg,h3,this]
     ·rename_i cs hx;have:=Up hK (R2 h ρ) w;rw[OV] at this;simp only[M8] at this;simp[execOp,ho,h0.ev hx,Instr.field,At h1,h2,TV.den,SV.den,asAgg,h3,this]
     ·cases h
    ·cases h
   ·cases h
  ·cases h
 case h_10 t x ho=>
  split at h
  ·rename_i kd hkd;split at h
   ·rename_i k o' hx;split at h
    ·rename_i cells ct hL;refine⟨by simp[Cw,ho],λA ρ a w h0=>?_⟩;have:=Nt (X.ok.kd _ _ hkd) (h0.lo k _ hL) (R2 h ρ);simp[execOp,ho,h0.ev hx,TV.den,SV.den,Instr.loadAt,Instr.sureAddr,this]
    ·cases h
   ·cases h
  ·cases h
 case h_11 c ho=>
  split at h
  ·rename_i hc;split at h
   ·rename_i x t hargs htys;split at h
    ·rename_i e he;split at h
     ·rename_i v hv;have hE:=X.ok.el _ _ he;have hu:∃e',X.P.underlying t=some (.slice e'):=by
       unfold tyE at hE;split at hE
       ·rename_i e' he';exact⟨e',he'⟩
       ·cases hE
      obtain⟨e',he'⟩:=hu;refine⟨by simp[Cw,ho],λA ρ a w h0=>?_⟩;have ha1:c.args= #[x]:=Cn hargs;have ha2:c.argTypes= #[t]:=Cn htys;unfold Amj at h;split at h
      ·cases h;simp[execOp,ho,resolve,hc,ha1,ha2,invoke,builtin,Builtin.len_,At he',h0.ev hv,TV.den,SV.den,goInt]
      ·cases h;simp[execOp,ho,resolve,hc,ha1,ha2,invoke,builtin,Builtin.len_,At he',h0.ev hv,TV.den,SV.den,goInt]
      ·cases h
     ·cases h
    ·cases h
   ·cases h
  ·cases h
 case h_12=>cases h
def brB (c:Bool) (x y:Prop):Prop:=match c with|true=>x|false=>y
variable {x y:Prop}
theorem A7 (h1:c=true->x) (h2:c=false->y):brB c x y:=by
 cases c
 ·exact h2 I
 ·exact h1 I
theorem Ai {p:Prop} [Decidable p] (h1:p->x) (h2:¬p->y):brB (decide p) x y:=by
 refine A7 (λh=>h1 (by simpa using h)) λh=>h2 (by simpa using h)
theorem P9 (h:c=true) (hx:x):brB c x y:=by subst h;exact hx
theorem OD (h:c=false) (hy:y):brB c x y:=by subst h;exact hy
def spl (cs:List SV) (o:Nat) (xs:List SV):List SV:=cs.take o++xs++cs.drop (o+xs.length)
def TN (size:Nat) (T:TE):Nat->List (Nat×Operand)->Option (List SV)
 |_,[]=>some []
 |k,(i,x)::r=>bif Nat.beq i k then(match evS T x with
  |some u=>match u.cells with
   |some cs=>bif Nat.beq cs.length size then(match TN size T (k+1) r with
    |some ds=>some (cs++ds)
    |none=>none) else none
   |none=>none
  |none=>none) else none
def KG (tab:Tab) (T:TE) (fs:List (Nat×Nat)):List SV->List (Nat×Operand)->Option (List SV)
 |cs,[]=>some cs
 |cs,(i,x)::r=>match fs[i]? with
  |some p=>match Ah tab.kd p.2,evS T x with
   |some kd,some u=>match u.cells with
    |some xs=>bif (Nat.beq xs.length (kd.getD 1)&&Nat.ble (p.1+xs.length) cs.length) then KG tab T fs (spl cs p.1 xs) r else none
    |none=>none
   |_,_=>none
  |none=>none
def opP (X:Fx) (o:Oper) (T:TE) (L:LE) (n:Nat) (k:TE->LE->Nat->Prop) (fail:Prop):Prop:=
 match o.op with
 | .box e x=>match evS T x with
  |some u=>match u.cells with
   |some cs=>match E7 X.k o.dst (.o (.p n 0)) T with
    |some T'=>k T' ((n,.c cs e)::L) (n+1)
    |none=>fail
   |none=>fail
  |none=>fail
 | .alloc e=>match Ah X.tab.ze e with
  |some zs=>match E7 X.k o.dst (.o (.p n 0)) T with
   |some T'=>k T' ((n,.c (Nz zs) e)::L) (n+1)
   |none=>fail
  |none=>fail
 | .store t x y=>match o.dst with
  |none=>match Ah X.tab.kd t,evS T x,evS T y with
   |some kd,some (.o (.p j off)),some u=>match u.cells,Ah L j with
    |some xs,some (.c cs ct)=>bif (Nat.beq xs.length (kd.getD 1)&&(Nat.ble (off+xs.length) cs.length&&xs.all SV.one)) then k T ((j,.c (spl cs off xs) ct)::L) n else fail
    |_,_=>fail
   |_,_,_=>fail
  |some _=>fail
 | .pick c a b=>match evS T c with
  |some (.o (.v (.bool t)))=>brB t (match evS T a with
    |some u=>match E7 X.k o.dst u T with|some T'=>k T' L n|none=>fail
    |none=>fail) (match evS T b with
    |some u=>match E7 X.k o.dst u T with|some T'=>k T' L n|none=>fail
    |none=>fail)
  |_=>fail
 | .buildSlice t len parts=>match Ah X.tab.el t with
  |some p=>match TN p.2 T 0 parts.toList with
   |some cs=>bif (Nat.beq parts.toList.length len&&Nat.blt (len*p.2) 1000) then(match Ah X.tab.ze p.1 with
    |some _=>match E7 X.k o.dst (.o (.s n 0 len len)) T with
     |some T'=>k T' ((n,.c cs p.1)::L) (n+1)
     |none=>fail
    |none=>fail) else fail
   |none=>fail
  |none=>fail
 | .build t parts=>match Ah X.tab.ze t,Ah X.tab.fd t with
  |some zs,some fs=>match KG X.tab T fs (Nz zs) parts.toList with
   |some cs=>match E7 X.k o.dst (.g cs) T with
    |some T'=>k T' L n
    |none=>fail
   |none=>fail
  |_,_=>fail
 |op=>match Acc X.tab op T L with
  |some u=>match E7 X.k o.dst u T with
   |some T'=>k T' L n
   |none=>fail
  |none=>fail
def opK (X:Fx) (o:Oper) (T:TE) (L:LE) (n:Nat) (F:List Fact) (D:DF) (k:KS) (K:KK):Prop:=opP X o T L n (λT' L' n'=>k T' L' n' F D) (OJs X o T L n F D k K)
def rl (X:Fx) (ops:List Oper):List Oper->TE->LE->Nat->List Fact->DF->KK->Prop
 | [],T,L,n,F,D,K=>K .normal T L n F D
 |o::l,T,L,n,F,D,K=>
  match o.guard with
  |none=>opK X o T L n F D (λT' L' n' F' D'=>rl X ops l T' L' n' F' D' K) K
  |some (j,b)=>match (ops[j]?).bind (·.dst) with
   |some d=>match Ah T d with
    |some (.o (.v (.bool c)))=>bif b then
      brB c (opK X o ((d,.o (.v (.bool true)))::T) L n F D (λT' L' n' F' D'=>rl X ops l T' L' n' F' D' K) K)
       (match E7 X.k o.dst (.o (.v undef)) ((d,.o (.v (.bool false)))::T) with|some T'=>rl X ops l T' L n F D K|none=>False)
     else brB c (match E7 X.k o.dst (.o (.v undef)) ((d,.o (.v (.bool true)))::T) with|some T'=>rl X ops l T' L n F D K|none=>False)
       (opK X o ((d,.o (.v (.bool false)))::T) L n F D (λT' L' n' F' D'=>rl X ops l T' L' n' F' D' K) K)
    |some (.o (.v (.tuple _)))=>(match E7 X.k o.dst (.o (.v undef)) T with|some T'=>rl X ops l T' L n F D K|none=>False)
    |_=>False
   |none=>False
theorem Alc (hd:Ah T d=some u) (h:RLs X ops l ((d,u)::T) L n F D K):RLs X ops l T L n F D K:=by
 intro Q hQ a w hr;refine h Q hQ a w ?_;obtain⟨hkb,ρ0,A,h0⟩:=hr;refine⟨hkb,ρ0,A,λρ hρ=>?_⟩;have h1:=h0 ρ hρ;refine⟨⟨λt x hx=>?_,h1.lo,h1.a3⟩,h1.sz,h1.df,h1.kp,h1.nw,h1.ds,h1.a1,h1.a2,h1.mb⟩;rw[As] at hx;split at hx
 ·rename_i e;rw[e];cases hx;exact h1.tm d _ hd
 ·exact h1.tm t x hx
theorem Add (xs:List Value) (o:Nat):∀(k:Nat) (cs:List Value),o+k+xs.length<=cs.length->
  (xs.zipIdx k).foldl (λ(c:Array Value) p=>c.setIfInBounds (o+p.2) p.1) cs.toArray=(cs.take (o+k)++xs++cs.drop (o+k+xs.length)).toArray:=by
 induction xs with
 |nil=>intro k cs _;simp
 |cons x xs ih=>
  intro k cs h;simp only[Ct] at h;rw[List.zipIdx_cons,List.foldl_cons,List.setIfInBounds_toArray,ih (k+1) _ (by rw[Mr];omega)]
  congr 1
  rw[List.take_set,List.drop_set,Bi tqO];rw[show o+(k+1)=o+k+1 by omega,Dl,A8 (by omega:o+k<cs.length),Option.toList_some,Pi _ _ (by rw[Am];omega)];rw[Am,C1 tqO,Le];simp only[List.set_cons_zero,Cp,E2,Cs,Ct];rw[show o+k+1+xs.length=o+k+(xs.length+1) by omega]
theorem YP (ρ:Nm) (cs:List SV) (o:Nat) (xs:List SV):C4 ρ (spl cs o xs)=(C4 ρ cs).take o++C4 ρ xs++(C4 ρ cs).drop (o+(C4 ρ xs).length):=by
 simp[spl,C4,Ir,Ko]
variable {xs:List Value}
theorem Z8 {place:Nat->Option (Nat×Nat)} {i off size:Nat} {r:List (Nat×Value)} (hp:place i=some (off,size)) (hv:v.cells=xs.toArray) (hs:xs.length=size) (hl:off+xs.length<=cs.length):
  Instr.fill place cs.toArray ((i,v)::r)=Instr.fill place (cs.take off++xs++cs.drop (off+xs.length)).toArray r:=by
 have h:=Add xs off 0 cs (by simpa using hl);simp only[Eb] at h;simp only[Instr.fill,hp,hv,E9];rw[Ar (by simp;omega)]
 congr 1
 rw[<-h];simp
theorem DT {X:Fx} {T:TE} {L:LE} {F:List Fact} {A:Nat->Prop} {ρ:Nm} {a:Act} {w:World} (h0:Vw T L F A ρ a w) {fs:List (Nat×Nat)} {place:Nat->Option (Nat×Nat)}
  (hpl:∀i p,fs[i]? =some p->∀kd,tyK X.P p.2=some kd->place i=some (p.1,kd.getD 1)):∀ {parts:List (Nat×Operand)} {cs ds:List SV},KG X.tab T fs cs parts=some ds->
  Instr.fill place (C4 ρ cs).toArray (parts.map λp=>(p.1,a.eval p.2))=some (C4 ρ ds).toArray
 | [],cs,ds,h=>by cases h;rfl
 |(i,x)::r,cs,ds,h=>by
  unfold KG at h;split at h
  ·rename_i p hp;split at h
   ·rename_i kd u hkd hu;split at h
    ·rename_i xs hxs;rw[Ew] at h;split at h
     ·rename_i hc;simp only[Ad,G6] at hc;have hsz:=Bq hc.1;have e1:=TV.cells_den (ρ:=ρ) hxs;rw[<-h0.ev hu] at e1;rw[Bj,Z8 (hpl i p hp kd (X.ok.kd _ _ hkd)) e1 (by simpa [C4] using hsz) (by simpa [C4] using hc.2),<-YP];exact DT h0 hpl h
     ·cases h
    ·cases h
   ·cases h
  ·cases h
theorem IV {T:TE} {L:LE} {F:List Fact} {A:Nat->Prop} {ρ:Nm} {a:Act} {w:World} (h0:Vw T L F A ρ a w) {size:Nat}:∀ {parts:List (Nat×Operand)} {k:Nat} {ds:List SV} {cs:List Value},TN size T k parts=some ds->cs.length=(k+parts.length)*size->
  Instr.fill (λi=>some (i*size,size)) cs.toArray (parts.map λp=>(p.1,a.eval p.2))=some (cs.take (k*size)++C4 ρ ds).toArray/\ds.length=parts.length*size
 | [],k,ds,cs,h,hl=>by
  cases h;simp only[E4,Instr.fill,C4,Bu,Ep,Nat.zero_mul,and_true];rw[Dm (by simp at hl;omega)]
 |(i,x)::r,k,ds,cs,h,hl=>by
  unfold TN at h;rw[Ew] at h;split at h
  ·rename_i hik;have hik:=Bq hik;subst hik;split at h
   ·rename_i u hu;split at h
    ·rename_i xs hxs;rw[Ew] at h;split at h
     ·rename_i hsz;have hsz:=Bq hsz;split at h
      ·rename_i es hes;cases h;have e1:=TV.cells_den (ρ:=ρ) hxs;rw[<-h0.ev hu] at e1;have hdl:(C4 ρ xs).length=size:=by simpa [C4] using hsz
       simp only[Ct] at hl;have hl2:cs.length=i*size+size+r.length*size:=by rw[hl];simp only[Fl,Wv];omega
       have hl3:(i+1)*size=i*size+size:=by rw[Fl,Wv]
       rw[Bj,Z8 (i:=i) I e1 hdl (by rw[hdl];omega)];have ih:=IV h0 (cs:=cs.take (i*size)++C4 ρ xs++cs.drop (i*size+(C4 ρ xs).length)) hes (by
        simp only[Az,Am,Bn,hdl,hl2,Fl,Wv];omega)
       rw[ih.1];refine⟨?_,?_⟩
       ·congr 2
        rw[hl3,C0 (by simp only[Az,Am,hdl,hl2];omega),Dm (by simp only[Az,Am,hdl,hl2];omega)];simp[C4]
       ·simp only[Az,Ct,ih.2,hsz,Fl,Wv];omega
      ·cases h
     ·cases h
    ·cases h
   ·cases h
  ·cases h
theorem AH {P:Program}:∀(fl:List Field),(fl.all λf=>(P.info? f.type).any (·.size != 0))=true->∃places,fl.mapM (λf=>(P.info? f.type).map λi=>(f.offset,i.size))=some places/\
  ∀(i:Nat) (f:Field) (kd:Option Nat),fl[i]? =some f->tyK P f.type=some kd->places[i]? =some (f.offset,kd.getD 1)
 | [],_=>⟨[],I,λi f kd h=>by simp at h⟩
 |f::fl,h=>by
  simp only[Xz,Ad] at h;obtain⟨places,h1,h2⟩:=AH fl h.2;obtain⟨i,hi,_⟩:=(Option.any_eq_true _ _).1 h.1;refine⟨(f.offset,i.size)::places,by simp[Sc,hi,h1],λj g kd hj hk=>?_⟩;cases j with
  |zero=>
   simp at hj;subst hj;obtain⟨d,i',_,hi',hs,_⟩:=Nx hk;rw[hi] at hi';cases hi';simp[hs]
  |succ j=>simpa using h2 j g kd (by simpa using hj) hk
theorem Qc (hk:tyK P t=some kd) {b o:Nat} (h:w.heap[b]? =some (.cells cs.toArray ty (0,0))) (hv:v.cells=xs.toArray) (hs:xs.length=kd.getD 1)
  (hl:o+xs.length<=cs.length) (h1:∀x∈xs,x.oneCell'=true):(storeVar t ⟨b,o,none⟩ v).run P w=.ok () (w.setRow b (cs.take o++xs++cs.drop (o+xs.length)).toArray):=by
 obtain⟨d,i,hd,hi,hsz,ha⟩:=Nx hk;have:=Lo P b o ty xs 0 cs.toArray w h (by simpa using hl) h1;simp only[Eb] at this;simp[storeVar,sizeOf,typeInfo,hi,hv,hsz,hs,this]
theorem EH {k:KS} (h:opK X o T L n F D k K):OJs X o T L n F D k K:=by
 unfold opK at h;unfold opP at h;split at h
 ·rename_i e x ho;split at h
  ·rename_i u hu;split at h
   ·rename_i cs hcs;split at h
    ·rename_i T' hp;refine NF (by simp[Cw,ho]) (u:=.o (.p n 0)) (cells:=cs) (t:=e) (λA ρ a w h0=>⟨.pointer (some ⟨w.heap.size,0,none⟩),?_,λρ' hn _=>by simp[TV.den,SV.den,hn]⟩) hp h;have e1:=TV.cells_den (ρ:=ρ) hcs;rw[<-h0.ev hu] at e1;simp[execOp,ho,Instr.box,newVar,newRow,newObj,Sem.run,e1]
    ·exact h
   ·exact h
  ·exact h
 ·rename_i e ho;split at h
  ·rename_i zs hz;split at h
   ·rename_i T' hp;obtain⟨i,z,hi,hz1,hz2⟩:=Ts (X.ok.ze _ _ hz);refine NF (by simp[Cw,ho]) (u:=.o (.p n 0)) (cells:=Nz zs) (t:=e) (λA ρ a w h0=>⟨.pointer (some ⟨w.heap.size,0,none⟩),?_,λρ' hn _=>by simp[TV.den,SV.den,hn]⟩) hp h;simp[execOp,ho,Instr.alloc,zeroValue,typeInfo,hi,hz1,newVar,newRow,newObj,Sem.run,hz2 ρ]
   ·exact h
  ·exact h
 ·rename_i t x y ho;split at h
  ·rename_i hdst;split at h
   ·rename_i kd j off u hkd hx hy;split at h
    ·rename_i xs cs ct hxs hL;rw[Ew] at h;split at h
     ·rename_i hc;simp only[Ad,G6] at hc;obtain⟨hc1,hc2,hc3⟩:=hc;have hc1:=Bq hc1;refine Akm (by simp[Cw,ho]) hdst hL (cells:=spl cs off xs) (λA ρ a w h0=>?_) h;have e1:=TV.cells_den (ρ:=ρ) hxs;rw[<-h0.ev hy] at e1;have:=Qc (X.ok.kd _ _ hkd) (o:=off) (h0.lo j _ hL) e1 (by simpa [C4] using hc1) (by simpa [C4] using hc2) (Agj hc3);rw[YP];simp[execOp,ho,Instr.storeAt,h0.ev hx,TV.den,SV.den,Instr.sureAddr,this]
     ·exact h
    ·exact h
   ·exact h
  ·exact h
 ·rename_i c a' b' ho;split at h
  ·rename_i t ht;have key:∀x,(t=true->x=a')->(t=false->x=b')->(match evS T x with
     |some u=>match E7 X.k o.dst u T with|some T'=>k T' L n F D|none=>OJs X o T L n F D k K
     |none=>OJs X o T L n F D k K)->OJs X o T L n F D k K:=by
    intro x h1 h2 h;split at h
    ·rename_i u hu;split at h
     ·rename_i T' hp;refine B8 ⟨by simp[Cw,ho],λA ρ a w h0=>?_⟩ (hp:=hp) h;have e1:=h0.ev ht;simp only[TV.den,SV.den] at e1;cases t
      ·simp[execOp,ho,e1,asBool,<-h2 I,h0.ev hu]
      ·simp[execOp,ho,e1,asBool,<-h1 I,h0.ev hu]
     ·exact h
    ·exact h
   cases t
   ·exact key b' (λh=>by cases h) (λ_=>I) h
   ·exact key a' (λ_=>I) (λh=>by cases h) h
  ·exact h
 ·rename_i t len parts ho;split at h
  ·rename_i p hp';split at h
   ·rename_i cs hcs;rw[Ew] at h;split at h
    ·rename_i hc;simp only[Ad,Gr] at hc;have hc1:=Bq hc.1;split at h
     ·rename_i zs hz;split at h
      ·rename_i T' hp;have hE:=X.ok.el _ _ hp';obtain⟨i,z,hi,hz1,hz2⟩:=Ts (X.ok.ze _ _ hz);have hu:X.P.underlying t=some (.slice p.1)/\i.size=p.2:=by
        unfold tyE at hE;split at hE
        ·rename_i e' he';split at hE
         ·rename_i i' hi';cases hE;exact⟨he',by rw[hi'] at hi;cases hi;rfl⟩
         ·cases hE
        ·cases hE
       refine NF (by simp[Cw,ho]) (u:=.o (.s n 0 len len)) (cells:=cs) (t:=p.1) (λA ρ a w h0=>⟨.slice (some ⟨w.heap.size,0,none⟩) len len,?_,λρ' hn _=>by simp[TV.den,SV.den,hn]⟩) hp h;have hbase:∀zz:Array Value,((Array.range (len*p.2)).map (zz[· % zz.size]!)).toList.length=(0+parts.toList.length)*p.2:=λzz=>by simp[hc1]
       have fin:∀zz:Array Value,Instr.fill (λi=>some (i*p.2,p.2)) ((Array.range (len*p.2)).map (zz[· % zz.size]!)) (parts.map λ(i,x)=>(i,a.eval x)).toList=some (C4 ρ cs).toArray:=λzz=>by
        have:=(IV h0.toVw hcs (hbase zz)).1;simp only[M8,Nat.zero_mul,List.take_zero,Cs] at this;rw[Di];exact this
       have h24:¬len*i.size>2 ^ 24:=by rw[hu.2];omega
       simp only[execOp,ho,Instr.buildSlice,Ba,At hu.1,An,sizeOf,typeInfo,J2,hi,Bh,Ar h24];by_cases h00:len*i.size=0
       ·rw[hu.2] at h00⊢;simp only[Bi h00,Bh,An,fin #[],Ba,newRow,newObj,Sem.run];rfl
       ·rw[hu.2] at h00⊢;simp only[Ar h00,Bh,An,zeroValue,typeInfo,J2,hi,hz1,fin z.cells,Ba,newRow,newObj,Sem.run];rfl
      ·exact h
     ·exact h
    ·exact h
   ·exact h
  ·exact h
 ·rename_i t parts ho;split at h
  ·rename_i zs fs hz hfs;split at h
   ·rename_i cs hcs;split at h
    ·rename_i T' hp;refine B8 ⟨by simp[Cw,ho],λA ρ a w h0=>?_⟩ (hp:=hp) h;obtain⟨i,z,hi,hz1,hz2⟩:=Ts (X.ok.ze _ _ hz);have hF:=X.ok.fd _ _ hfs;unfold tyF at hF;split at hF
     ·rename_i fl hfl;split at hF
      ·rename_i hall;cases hF;obtain⟨places,hp1,hp2⟩:=AH _ hall;have hfill:=DT h0 (place:=(places.toArray[·]?)) (λi p hp kd hkd=>by
        simp only[Cq,Dn] at hp;obtain⟨fd,hfd,rfl⟩:=hp;simpa using hp2 i fd kd hfd hkd) hcs
       have hb:X.P.built t (parts.map λ(i,x)=>(i,a.eval x)).toList=some (C4 ρ cs).toArray:=by
        unfold Program.built;simp only[hi,hfl,hz1,hp1,hz2 ρ];rw[Di];exact hfill
       simp only[execOp,ho,Ba,run_build w t _ _ hb,An,Bh,TV.den]
      ·cases hF
     ·cases hF
    ·exact h
   ·exact h
  ·exact h
 ·split at h
  ·rename_i u hu;split at h
   ·rename_i T' hp;exact B8 (YT hu) (hp:=hp) h
   ·exact h
  ·exact h
theorem Zr {X:Fx} {ops:List Oper}:∀ {l:List Oper} {T:TE} {L:LE} {n:Nat} {F:List Fact} {D:DF} {K:KK},rl X ops l T L n F D K->RLs X ops l T L n F D K
 | [],_,_,_,_,_,_,h=>Ald h
 |o::l,T,L,n,F,D,K,h=>by
  unfold rl at h;split at h
  ·rename_i hg;exact Afb (.inl hg) (λ_ _ _ _ _ h=>Zr h) (EH h)
  ·rename_i j b hg;split at h
   ·rename_i d hd;split at h
    ·rename_i c hc;have gd:∀e:Bool,Rp ops j ((d,.o (.v (.bool e)))::T)=some e:=λe=>by
      unfold Rp;rw[hd];simp only[Gs]
     have run:∀e:Bool,e=b->opK X o ((d,.o (.v (.bool e)))::T) L n F D (λT' L' n' F' D'=>rl X ops l T' L' n' F' D' K) K->RLs X ops (o::l) ((d,.o (.v (.bool e)))::T) L n F D K:=λe he h=>
      Afb (.inr ⟨j,b,hg,by rw[gd,he]⟩) (λ_ _ _ _ _ h=>Zr h) (EH h)
     have skip:∀e:Bool,(e == b)=false->(match E7 X.k o.dst (.o (.v undef)) ((d,.o (.v (.bool e)))::T) with|some T'=>rl X ops l T' L n F D K|none=>False)->RLs X ops (o::l) ((d,.o (.v (.bool e)))::T) L n F D K:=λe he h=>by
      split at h
      ·rename_i T' hp;exact Ah2 hg (gd e) he hp (Zr h)
      ·exact h.elim
     refine Alc hc ?_;cases b<;>cases c
     ·exact run _ I h
     ·exact skip _ I h
     ·exact skip _ I h
     ·exact run _ I h
    ·rename_i xs hc;split at h
     ·rename_i T' hp;exact Afc hg hd hc hp (Zr h)
     ·exact h.elim
    ·exact h.elim
   ·exact h.elim
def Ao0 (y:TE->LE->Nat->List Fact->DF->Prop) (K:KK):KK:=λe T L n F D=>match e with
 | .normal=>y T L n F D
 |e=>K e T L n F D
def Alz (id:Nat) (K:KK):KK:=λe T L n F D=>match e with
 | .exit i=>bif Nat.beq i id then K .normal T L n F D else K (.exit i) T L n F D
 |e=>K e T L n F D
def sx (X:Fx):Code->TE->LE->Nat->List Fact->DF->KK->Prop
 | .skip,T,L,n,F,D,K=>K .normal T L n F D
 | .region _ ops false,T,L,n,F,D,K=>rl X ops.toList ops.toList T L n F D K
 | .seq a b,T,L,n,F,D,K=>sx X a T L n F D (Ao0 (λT L n F D=>sx X b T L n F D K) K)
 | .cond c a b,T,L,n,F,D,K=>match evS T c with
  |some (.o (.v (.bool t)))=>brB t (sx X a T L n F D K) (sx X b T L n F D K)
  |_=>CJs X (.cond c a b) T L n F D K
 | .block id b,T,L,n,F,D,K=>sx X b T L n F D (Alz id K)
 | .exit id,T,L,n,F,D,K=>K (.exit id) T L n F D
 | .ret,T,L,n,F,D,K=>K .ret T L n F D
 | .goto l,T,L,n,F,D,K=>K (.goto l) T L n F D
 | .label _,T,L,n,F,D,K=>K .normal T L n F D
 |c,T,L,n,F,D,K=>CJs X c T L n F D K
theorem Ht:∀ {c:Code} {T:TE} {L:LE} {n:Nat} {F:List Fact} {D:DF} {K:KK},sx X c T L n F D K->CJs X c T L n F D K:=by
 intro c;induction c with
 |skip=>exact λh Q hQ a w hr=>wpIn_skip (hQ _ _ _ _ _ _ h a w hr)
 |region id ops d=>
  intro T L n F D K h;cases d
  ·intro Q hQ a w hr;have:=Zr h Q hQ a w hr;rw[M8] at this;exact wpIn_region_list this
  ·exact h
 |seq x y ihx ihy=>
  intro T L n F D K h Q hQ a w hr;refine wpIn_seq (ihx h _ ?_ a w hr);intro e T L n F D hK a w hr;cases e with
  |normal=>exact ihy hK Q hQ a w hr
  |exit id=>exact hQ _ _ _ _ _ _ hK a w hr
  |goto l=>exact hQ _ _ _ _ _ _ hK a w hr
  |ret=>exact hQ _ _ _ _ _ _ hK a w hr
  |panic ch=>exact hQ _ _ _ _ _ _ hK a w hr
  |outgrown=>exact hQ _ _ _ _ _ _ hK a w hr
 |cond c x y ihx ihy=>
  intro T L n F D K h;unfold sx at h;split at h
  ·rename_i t ht;intro Q hQ a w hr;obtain⟨A,ρ,h0⟩:=hr.one;have e1:=h0.ev ht;cases t
   ·exact wpIn_cond_false e1 (ihy h Q hQ a w hr)
   ·exact wpIn_cond_true e1 (ihx h Q hQ a w hr)
  ·exact h
 |block id b ih=>
  intro T L n F D K h Q hQ a w hr;refine wpIn_block (ih h _ ?_ a w hr);intro e T L n F D hK a w hr;cases e with
  |normal=>exact hQ _ _ _ _ _ _ hK a w hr
  |exit i=>
   simp only[Alz,Ew,Es] at hK;simp only[Exit.inBlock];split at hK
   ·rename_i e;rw[Bi e];exact hQ _ _ _ _ _ _ hK a w hr
   ·rename_i e;rw[Ar e];exact hQ _ _ _ _ _ _ hK a w hr
  |goto l=>exact hQ _ _ _ _ _ _ hK a w hr
  |ret=>exact hQ _ _ _ _ _ _ hK a w hr
  |panic ch=>exact hQ _ _ _ _ _ _ hK a w hr
  |outgrown=>exact hQ _ _ _ _ _ _ hK a w hr
 |exit id=>exact λh Q hQ a w hr=>wpIn_exit (hQ _ _ _ _ _ _ h a w hr)
 |ret=>exact λh Q hQ a w hr=>wpIn_ret (hQ _ _ _ _ _ _ h a w hr)
 |goto l=>exact λh Q hQ a w hr=>wpIn_goto (hQ _ _ _ _ _ _ h a w hr)
 |label l=>exact λh Q hQ a w hr=>wpIn_label (hQ _ _ _ _ _ _ h a w hr)
 |loop b ih=>exact λh=>h
 |rangeFunc f ps x y ihx ihy=>exact λh=>h
 |scope b ih=>exact λh=>h
 |refuse y=>exact λh=>h
section
variable {X:Fx} {ops l:List Oper} {o:Oper} {T:TE} {L:LE} {n:Nat} {F:List Fact} {D:DF} {K:KK} {k:KS} {c:Code}
variable {w:World}
theorem Rel.fact {a:Act} (h:Rel X T L n F D a w):∃A:Nat->Prop,(∀b,A b->b<w.heap.size)/\∀f∈F,f.h A w:=by
 obtain⟨A,ρ,h0⟩:=h.one;exact⟨A,λb hb=>(h0.a2 b hb).1,h0.a3⟩
theorem Dk {p:Prop} (f:Fact) (hp:∀A w,f.h A w->p) (h:p->OJs X o T L n F D k K) (hf:f∈F:=by exact tqS):OJs X o T L n F D k K:=by
 intro Q hQ Φ hΦ a w hr;obtain⟨A,_,h3⟩:=hr.fact;exact h (hp A w (h3 f hf)) Q hQ Φ hΦ a w hr
theorem Ec {p:Prop} (f:Fact) (hp:∀A w,f.h A w->p) (h:p->CJs X c T L n F D K) (hf:f∈F:=by exact tqS):CJs X c T L n F D K:=by
 intro Q hQ a w hr;obtain⟨A,_,h3⟩:=hr.fact;exact h (hp A w (h3 f hf)) Q hQ a w hr
theorem Rel.more {a:Act} {F':List Fact} (h:Rel X T L n F D a w) (hF:∀A:Nat->Prop,(∀f∈F,f.h A w)->∀f∈F',f.h A w):Rel X T L n F' D a w:=by
 obtain⟨hkb,ρ0,A,h0⟩:=h;refine⟨hkb,ρ0,A,λρ hρ=>?_⟩;have h1:=h0 ρ hρ;exact⟨⟨h1.tm,h1.lo,hF A h1.a3⟩,h1.sz,h1.df,h1.kp,h1.nw,h1.ds,h1.a1,h1.a2,h1.mb⟩
theorem Oq (F':List Fact) (hF:∀A w,(∀f∈F,f.h A w)->∀f∈F',f.h A w) (h:OJs X o T L n F' D k K):OJs X o T L n F D k K:=λQ hQ Φ hΦ a w hr=>h Q hQ Φ hΦ a w (hr.more λA=>hF A w)
theorem Pw (F':List Fact) (hF:∀A w,(∀f∈F,f.h A w)->∀f∈F',f.h A w) (h:CJs X c T L n F' D K):CJs X c T L n F D K:=λQ hQ a w hr=>h Q hQ a w (hr.more λA=>hF A w)
def B9 (b:Nat) (cs:List Value) (t:TypeId):Fact:=⟨λA w=>A b/\w.heap[b]? =some (.cells cs.toArray t (0,0)),λhA hw _ h=>⟨hA _ h.1,(hw _ h.1).trans h.2⟩⟩
abbrev MB:=Nat×List Value×TypeId
abbrev Gx:=Ending->List (List Value)->List Fact->Prop
def Res (w0:World) (A0:Nat->Prop) (mu:List MB) (Out:Gx) (e:Ending) (w':World):Prop:=
 ∃cs F1,Out e cs F1/\Kp (mu.map (·.1)) w0 w'/\cs.length=mu.length/\(∀(i:Nat) (x:MB) (c:List Value),mu[i]? =some x->cs[i]? =some c->w'.heap[x.1]? =some (.cells c.toArray x.2.2 (0,0)))/\
  ∃A':Nat->Prop,(∀b,A' b->A0 b\/w0.heap.size<=b)/\(∀b,A' b->b<w'.heap.size)/\∀f∈F1,f.h A' w'
def Cm (P:Program) (g:FuncId) (args:List Value) (mu:List MB) (F0:List Fact) (Out:Gx):Prop:=
 ∀(A:Nat->Prop) (w:World),(mu.map (·.1)).Nodup->(∀x∈mu,w.heap[x.1]? =some (.cells x.2.1.toArray x.2.2 (0,0))/\¬A x.1)->(∀b,A b->b<w.heap.size)->(∀f∈F0,f.h A w)->Calls P g args.toArray w (Res w A mu Out)
def Bd (v:Value):Gx:=λe _ F1=>e=.returned v/\F1=[]
def Va (T:TE) (f:Operand):Option (Nat×List PV×List PV):=
 match evS T f with
 |some (.o (.v (.func (.func g) fi ca)))=>some (g,fi.toList.map PV.v,ca.toList.map PV.v)
 |some (.o (.f (.func g) fi ca))=>some (g,fi,ca)
 |_=>none
def Rg (T:TE):List Operand->Option (List TV)
 | []=>some []
 |x::r=>match evS T x with
  |some u=>match Rg T r with
   |some us=>some (u::us)
   |none=>none
  |none=>none
def Gn (ρ:Nm) (fi:List PV) (us:List TV) (ca:List PV):List Value:=fi.map (PV.den ρ)++us.map (TV.den ρ)++ca.map (PV.den ρ)
theorem Y3 {A:Nat->Prop} {ρ:Nm} {a:Act} {w:World} (h:Vw T L F A ρ a w):∀ {l:List Operand} {us:List TV},Rg T l=some us->l.map a.eval=us.map (TV.den ρ)
 | [],_,h2=>by cases h2;rfl
 |x::r,us,h2=>by
  unfold Rg at h2;split at h2
  ·rename_i u hu;split at h2
   ·rename_i vs hv;cases h2;rw[Bj,Bj,h.ev hu,Y3 h hv]
   ·cases h2
  ·cases h2
variable {g:Nat}
theorem Qh {P:Program} (h:tyB P g=true):Enters P g:=by
 unfold tyB at h;split at h
 ·rename_i fn hfn;simp only[Ad,Ei] at h;obtain⟨c,hc⟩:=Nn.1 h.1;exact Df hfn h.2 hc
 ·cases h
variable {ca fi:List PV} {us:List TV}
theorem Qa {A:Nat->Prop} {ρ:Nm} {a:Act} (h0:Vw T L F A ρ a w) {c:Call} {f:Operand} (ho:o.op=.call c) (hc:c.callee=.value f) (hf:Va T f=some (g,fi,ca)) (hus:Rg T c.args.toList=some us) (hfn:Ah X.tab.fn g=some ()):
  (execOp a.eval o).run X.P w=.ok (.enter g (Gn ρ fi us ca).toArray) w:=by
 have hE:∀args w,(callFunc g args).run X.P w=.ok (.enter g args) w:=Qh (X.ok.fn _ _ hfn);have e1:=Y3 h0 hus;have e2:c.args.map a.eval=(us.map (TV.den ρ)).toArray:=by apply Cn;rw[Di];exact e1
 unfold Va at hf;split at hf
 ·rename_i g' fi' ca' hv;cases hf;have e3:=h0.ev hv;simp only[TV.den,SV.den] at e3;simp[execOp,ho,resolve,hc,e3,Deferred.ofValue,invoke,hE,e2,Gn,PV.den,Ll]
 ·rename_i g' fi' ca' hv;cases hf;have e3:=h0.ev hv;simp only[TV.den,SV.den] at e3;simp[execOp,ho,resolve,hc,e3,Deferred.ofValue,invoke,hE,e2,Gn]
 ·cases hf
def W4 (L:LE):List Nat->Option (List (Nat×List SV×TypeId))
 | []=>some []
 |k::r=>match Ah L k with
  |some (.c cs t)=>match W4 L r with
   |some ls=>some ((k,cs,t)::ls)
   |none=>none
  |_=>none
def Mh (ρ:Nm) (ls:List (Nat×List SV×TypeId)):List MB:=ls.map λx=>(ρ x.1,C4 ρ x.2.1,x.2.2)
theorem Vo:∀ {ks:List Nat} {ls:List (Nat×List SV×TypeId)},W4 L ks=some ls->ls.map (·.1)=ks/\∀x∈ls,Ah L x.1=some (.c x.2.1 x.2.2)
 | [],ls,h=>by cases h;simp
 |k::r,ls,h=>by
  unfold W4 at h;split at h
  ·rename_i cs t hk;split at h
   ·rename_i ls' hl;cases h;obtain⟨h1,h2⟩:=Vo hl;refine⟨by simp[h1],λx hx=>?_⟩;rcases Ap.1 hx with rfl|hx
    ·exact hk
    ·exact h2 x hx
   ·cases h
  ·cases h
def Q8:List (Nat×List SV×TypeId)->List (List Value)->LE->LE
 |(k,_,t)::r,c::cs,L=>(k,.c (c.map SV.v) t)::Q8 r cs L
 |_,_,L=>L
def Ww (X:Fx) (o:Oper) (T:TE) (L:LE) (n:Nat) (F1 F:List Fact) (D:DF) (k:KS) (K:KK) (e:Ending):Prop:=
 match e with
 | .returned v=>match E7 X.k o.dst (.o (.v v)) T with
  |some T'=>k T' L n (F1++F) D
  |none=>False
 | .panicked ch=>K (.panic ch) T L n (F1++F) D
 | .outgrown=>False
theorem ZA {ls:List (Nat×List SV×TypeId)} {cs:List (List Value)} {L:LE} {k:Nat} {e:LC} (hn:(ls.map (·.1)).Nodup) (hl:cs.length=ls.length) (h:Ah (Q8 ls cs L) k=some e):
  (∃(i:Nat) (cs':List SV) (t:TypeId) (c:List Value),ls[i]? =some (k,cs',t)/\cs[i]? =some c/\e=.c (c.map SV.v) t)\/(k ∉ ls.map (·.1)/\Ah L k=some e):=by
 induction ls generalizing cs with
 |nil=>right;cases cs<;>exact⟨tqS,h⟩
 |cons x ls ih=>
  cases cs with
  |nil=>simp at hl
  |cons c cs=>
   obtain⟨k',cs',t⟩:=x;simp only[Q8] at h;rw[As] at h;split at h
   ·rename_i ek;cases h;subst ek;exact .inl ⟨0,cs',t,c,I,I,I⟩
   ·rename_i ek;rcases ih (by simp at hn;exact hn.2) (by simpa using hl) h with ⟨i,cs2,t2,c2,h1,h2,h3⟩|⟨h1,h2⟩
    ·exact .inl ⟨i+1,cs2,t2,c2,by simpa using h1,by simpa using h2,h3⟩
    ·exact .inr ⟨by simp at h1⊢;exact⟨λe=>ek e,h1⟩,h2⟩
theorem LC.blk_congr {ρ ρ':Nm} {k:Nat} {e:LC} (h:ρ k=ρ' k):e.blk ρ k=e.blk ρ' k:=by cases e<;>simp[LC.blk,h]
variable {F0:List Fact}
theorem UR {a:Act} {ro mu:List (Nat×List SV×TypeId)} {Out:Gx} {rk mk:List Nat} (hr:Rel X T L n F D a w)
  (hro:W4 L rk=some ro) (hmu:W4 L mk=some mu) (hnd:(rk++mk).Nodup)
  (ct:∀ρ,Cm X.P g (Gn ρ fi us ca) (Mh ρ mu) ((Mh ρ ro).map (λx=>B9 x.1 x.2.1 x.2.2)++F0) Out) (hF0:∀f∈F0,f∈F) (hno:rk=[]\/∀e cs F1,Out e cs F1->F1=[]):
  ∃A ρ,Rel0 X T L F D A ρ a w/\Calls X.P g (Gn ρ fi us ca).toArray w λe w'=>∃cs F1,cs.length=mu.length/\Out e cs F1/\Rel X T (Q8 mu cs L) n (F1++F) D a w':=by
 obtain⟨hkb,ρ0,A,hr0⟩:=hr;have h0:=hr0 ρ0 λ_ _=>I;refine⟨A,ρ0,h0,?_⟩;obtain⟨hro1,hro2⟩:=Vo hro;obtain⟨hmu1,hmu2⟩:=Vo hmu;have inj:∀(ls:List (Nat×List SV×TypeId)),(∀x∈ls,Ah L x.1=some (.c x.2.1 x.2.2))->(ls.map (·.1)).Nodup->((Mh ρ0 ls).map (·.1)).Nodup:=by
  intro ls hls hnd;simp only[Mh,Fp];refine List.Pairwise.map _ ?_ (S5.1 hnd |>.imp_of_mem λ{x y} hx hy hxy=>(⟨hx,hy,hxy⟩:x∈ls/\y∈ls/\x.1≠y.1));rintro x y ⟨hx,hy,hxy⟩ e;exact hxy (h0.ds x.1 y.1 _ _ (ρ0 x.1) (hls x hx) (hls y hy) I (by simpa [LC.blk] using e.symm))
 have hndm:(mu.map (·.1)).Nodup:=by rw[hmu1];exact(Pd.1 hnd).2.1
 have hCm:=ct ρ0 (λb=>A b\/∃x∈ro,ρ0 x.1=b) w (inj mu hmu2 hndm) (by
   intro x hx;obtain⟨y,hy,rfl⟩:=Cd.1 hx;refine⟨h0.lo y.1 _ (hmu2 y hy),?_⟩;rintro (hA|⟨z,hz,hzy⟩)
   ·exact(h0.a2 _ hA).2 y.1 _ (hmu2 y hy) I
   ·have e:=h0.ds z.1 y.1 _ _ (ρ0 z.1) (hro2 z hz) (hmu2 y hy) I (by simp only[LC.blk];rw[hzy]);have h1:z.1∈rk:=by rw[<-hro1];exact Cd.2 ⟨z,hz,I⟩
    have h2:y.1∈mk:=by rw[<-hmu1];exact Cd.2 ⟨y,hy,I⟩
    exact(Pd.1 hnd).2.2 _ h1 _ h2 e) (by
   rintro b (hA|⟨z,hz,rfl⟩)
   ·exact(h0.a2 b hA).1
   ·exact LC.lt (h0.lo z.1 _ (hro2 z hz)) I) (by
   intro fa hfa;rcases B4.1 hfa with hfa|hfa
   ·obtain⟨x,hx,rfl⟩:=Cd.1 hfa;obtain⟨y,hy,rfl⟩:=Cd.1 hx;exact⟨.inr ⟨y,hy,I⟩,h0.lo y.1 _ (hro2 y hy)⟩
   ·exact fa.ok (λ_ h=>.inl h) (λ_ _=>I) (Grow.refl _) (h0.a3 fa (hF0 fa hfa)))
 refine hCm.mono ?_;rintro e w' ⟨cs,F1,hout,hkp,hcl,hcs,A',hA1,hA2,hA3⟩;have hcl:cs.length=mu.length:=by rw[hcl];simp[Mh]
 have rel:Rel X T (Q8 mu cs L) n (F1++F) D a w':=by
  have old:∀k e,Ah L k=some e->k ∉ mk->∀ρ:Nm,(∀j,j<n->ρ j=ρ0 j)->∀b,e.blk ρ k=some b->b<w.heap.size/\w'.heap[b]? =w.heap[b]?:=by
   intro k e hke hkm ρ hρ b hb;have h1:=hr0 ρ hρ;have hlt:=LC.lt (h1.lo k e hke) hb;refine⟨hlt,hkp.keep b hlt λhm=>hkm ?_⟩;obtain⟨x,hx,hxb⟩:=Cd.1 hm;obtain⟨y,hy,rfl⟩:=Cd.1 hx;have hyk:y.1<n:=hkb _ _ (hmu2 y hy);have:=h1.ds k y.1 _ _ b hke (hmu2 y hy) hb (by simp only[LC.blk];rw[hρ _ hyk];exact Fb some hxb);rw[this,<-hmu1];exact Cd.2 ⟨y,hy,I⟩
  have look:∀k e,Ah (Q8 mu cs L) k=some e->(∃(cs':List SV) (t:TypeId) (c:List Value),Ah L k=some (.c cs' t)/\e=.c (c.map SV.v) t/\k∈mk/\w'.heap[ρ0 k]? =some (.cells c.toArray t (0,0)))\/(k ∉ mk/\Ah L k=some e):=by
   intro k e hke;rcases ZA hndm hcl hke with ⟨i,cs',t,c,h1,h2,rfl⟩|⟨h1,h2⟩
   ·have hm:=Av h1;refine .inl ⟨cs',t,c,hmu2 _ hm,I,?_,?_⟩
    ·rw[<-hmu1];exact Cd.2 ⟨_,hm,I⟩
    ·exact hcs i (ρ0 k,C4 ρ0 cs',t) c (by simp[Mh,h1]) h2
   ·exact .inr ⟨by rw[<-hmu1];exact h1,h2⟩
  have bl:∀k e b (ρ:Nm),Ah (Q8 mu cs L) k=some e->e.blk ρ k=some b->∃e0,Ah L k=some e0/\e0.blk ρ k=some b:=by
   intro k e b ρ hke hb;rcases look k e hke with ⟨cs',t,c,h1,rfl,_,_⟩|⟨_,h2⟩
   ·exact⟨_,h1,hb⟩
   ·exact⟨e,h2,hb⟩
  refine⟨λk e hke=>?_,ρ0,λb=>A b\/(F1≠ []/\A' b),λρ hρ=>?_⟩
  ·rcases look k e hke with ⟨cs',t,c,h1,_,_,_⟩|⟨_,h2⟩
   ·exact hkb _ _ h1
   ·exact hkb _ _ h2
  have h1:=hr0 ρ hρ;have hA'sub:∀b,F1≠ []->A' b->A b\/w.heap.size<=b:=by
   intro b hne hb;rcases hA1 b hb with (hA|⟨x,hx,_⟩)|h2
   ·exact .inl hA
   ·rcases hno with hno|hno
    ·rw[<-hro1] at hno;rw[List.map_eq_nil_iff.1 hno] at hx;cases hx
    ·exact absurd (hno e cs F1 hout) hne
   ·exact .inr h2
  have Aold:∀b,A b->w'.heap[b]? =w.heap[b]?:=by
   intro b hb;refine hkp.keep b (h1.a2 b hb).1 λhm=>?_;obtain⟨x,hx,hxb⟩:=Cd.1 hm;obtain⟨y,hy,rfl⟩:=Cd.1 hx;have hyk:y.1<n:=hkb _ _ (hmu2 y hy);exact(h1.a2 b hb).2 y.1 _ (hmu2 y hy) (by simp only[LC.blk];rw[hρ _ hyk];exact Fb some hxb)
  refine⟨⟨h1.tm,?_,?_⟩,h1.sz,h1.df,?_,?_,?_,?_,?_,h1.mb⟩
  ·intro k e hke;rcases look k e hke with ⟨cs',t,c,h3,rfl,_,h4⟩|⟨hkm,h2⟩
   ·show w'.heap[ρ k]? =_
    rw[hρ k (hkb _ _ h3),h4];simp[C4,Fp,Ll,SV.den]
   ·exact LC.keep (h1.lo k e h2) λb hb=>(old k e h2 hkm ρ hρ b hb).2
  ·intro fa hfa;rcases B4.1 hfa with hfa|hfa
   ·exact fa.ok (λb hb=>.inr ⟨List.ne_nil_of_mem hfa,hb⟩) (λ_ _=>I) (Grow.refl _) (hA3 fa hfa)
   ·exact fa.ok (λb hb=>.inl hb) (λb hb=>Aold b hb) hkp.grow (h1.a3 fa hfa)
  ·refine⟨hkp.os.trans h1.kp.os,hkp.tape.trans h1.kp.tape,hkp.output.trans h1.kp.output,Bf h1.kp.size hkp.size,λb hb hm=>?_⟩;rw[hkp.keep b (Aw hb h1.kp.size) λhm2=>?_]
   ·exact h1.kp.keep b hb hm
   ·obtain⟨x,hx,hxb⟩:=Cd.1 hm2;obtain⟨y,hy,rfl⟩:=Cd.1 hx;have hyk:y.1<n:=hkb _ _ (hmu2 y hy);rcases h1.nw y.1 _ b (hmu2 y hy) (by simp only[LC.blk];rw[hρ _ hyk];exact Fb some hxb) with h2|h2
    ·exact hm h2
    ·omega
  ·intro k e b hke hb;obtain⟨e0,h2,h3⟩:=bl k e b ρ hke hb;exact h1.nw k e0 b h2 h3
  ·intro k k' e e' b hke hke' hb hb';obtain⟨e0,h2,h3⟩:=bl k e b ρ hke hb;obtain⟨e1,h4,h5⟩:=bl k' e' b ρ hke' hb';exact h1.ds k k' e0 e1 b h2 h4 h3 h5
  ·rintro b (hb|⟨hne,hb⟩)
   ·exact h1.a1 b hb
   ·rcases hA'sub b hne hb with h2|h2
    ·exact h1.a1 b h2
    ·exact .inr (Bf h1.kp.size h2)
  ·rintro b (hb|⟨hne,hb⟩)
   ·refine⟨Aw (h1.a2 b hb).1 hkp.size,λk e hke hbk=>?_⟩;obtain⟨e0,h2,h3⟩:=bl k e b ρ hke hbk;exact(h1.a2 b hb).2 k e0 h2 h3
   ·refine⟨hA2 b hb,λk e hke hbk=>?_⟩;obtain⟨e0,h2,h3⟩:=bl k e b ρ hke hbk;rcases hA'sub b hne hb with h4|h4
    ·exact(h1.a2 b h4).2 k e0 h2 h3
    ·have:=LC.lt (h1.lo k e0 h2) h3;omega
 exact⟨cs,F1,hcl,hout,rel⟩
theorem Aj {c:Call} {f:Operand} {ro mu:List (Nat×List SV×TypeId)} {Out:Gx} (rk mk:List Nat) (hh:o.op=.call c/\c.callee=.value f/\Va T f=some (g,fi,ca)/\Rg T c.args.toList=some us/\Ah X.tab.fn g=some ()/\W4 L rk=some ro/\W4 L mk=some mu) (ct:∀ρ,Cm X.P g (Gn ρ fi us ca) (Mh ρ mu) ((Mh ρ ro).map (λx=>B9 x.1 x.2.1 x.2.2)++F0) Out) (h:∀e cs F1,cs.length=mu.length->Out e cs F1->Ww X o T (Q8 mu cs L) n F1 F D k K e) (hnd:(rk++mk).Nodup:=by exact tqS) (hF0:∀f∈F0,f∈F:=by exact tqF) (hno:rk=[]\/∀e cs F1,Out e cs F1->F1=[]:=by exact .inl I):OJs X o T L n F D k K:=by
 obtain⟨ho,hc,hf,hus,hfn,hro,hmu⟩:=hh;intro Q hQ Φ hΦ a w hr;obtain⟨A,ρ0,h0,hCm⟩:=UR hr hro hmu hnd ct hF0 hno;refine Oper.wpIn_of_run (by simp[Cw,ho]) ?_;rw[Qa h0.toVw ho hc hf hus hfn];refine⟨λhd=>by simp[Fx.fe,Fence.wide] at hd,?_⟩;refine Mk (show CallsIn X.fe (X.nn- 1) X.P g (Gn ρ0 fi us ca).toArray w _ from⟨trivial,((Fz (n:=X.nn- 1)).2 hCm).2⟩) ?_;rintro e w' ⟨cs,F1,hcl,hout,rel⟩;have hk:=h e cs F1 hcl hout;cases e with
 |returned v=>
  simp only[Ww] at hk;split at hk
  ·rename_i T' hp;exact hΦ _ _ _ _ _ hk _ w' (rel.put (λ_ _ _=>I) hp)
  ·exact hk.elim
 |panicked ch=>exact hQ _ _ _ _ _ _ hk a w' rel
 |outgrown=>exact hk.elim
theorem tqc {c:Call} {f:Operand} {G:List Fact} {v:Ending} (hh:o.op=.call c/\c.callee=.value f/\Va T f=some (g,fi,ca)/\Rg T c.args.toList=some us/\Ah X.tab.fn g=some ()) (ct:∀ρ,Cm X.P g (Gn ρ fi us ca) [] ((Mh ρ []).map (λx=>B9 x.1 x.2.1 x.2.2)++F0) λe _ F1=>e=v/\F1=G) (h:Ww X o T L n G F D k K v) (hF0:∀f∈F0,f∈F:=by exact tqF):OJs X o T L n F D k K:=
 Aj (ro:=[]) (mu:=[]) [] [] ⟨hh.1,hh.2.1,hh.2.2.1,hh.2.2.2.1,hh.2.2.2.2,I,I⟩ (hnd:=by simp) ct (hF0:=hF0) (by rintro e cs F1 _ ⟨rfl,rfl⟩;exact h)
end
section
variable {X:Fx} {ops l:List Oper} {o:Oper} {T:TE} {L:LE} {n:Nat} {F:List Fact} {D:DF} {K:KK} {c:Code}
def Vs (tab:Tab) (T:TE) (L:LE):List ResultVar->Option (List TV)
 | []=>some []
 | .tmp t::r=>match Ah T t with
  |some u=>match Vs tab T L r with
   |some us=>some (u::us)
   |none=>none
  |none=>none
 | .cell a t::r=>match Ah tab.kd t,Ah T a with
  |some kd,some (.o (.p k o))=>match Ah L k with
   |some (.c cells _)=>match Pf kd cells o with
    |some u=>match Vs tab T L r with
     |some us=>some (u::us)
     |none=>none
    |none=>none
   |_=>none
  |_,_=>none
def Uo (ρ:Nm):List TV->Value
 | [u]=>u.den ρ
 |us=>.tuple (us.map (TV.den ρ)).toArray
def R3 (tmps:Array Value):ResultVar->Sem Value
 | .tmp t=>pure (tmps.getD t undef)
 | .cell a t=>do loadVar t (<-asAddr (tmps.getD a undef))
theorem LH (fn:Func) (tmps:Array Value):results fn tmps=(do
  let vs<-fn.results.mapM (R3 tmps)
  pure (if h:vs.size=1 then vs[0] else .tuple vs)):=by
 unfold results
 congr 2
theorem IZ {A:Nat->Prop} {ρ:Nm} {a:Act} {w:World} (h0:Vw T L F A ρ a w):∀ {rs:List ResultVar} {us:List TV},Vs X.tab T L rs=some us->
  (rs.mapM (R3 a.tmps)).run X.P w=.ok (us.map (TV.den ρ)) w
 | [],us,h=>by cases h;rfl
 | .tmp t::r,us,h=>by
  unfold Vs at h;split at h
  ·rename_i u hu;split at h
   ·rename_i us' hus;cases h;have:=IZ h0 hus;simp only[Sc,R3,Ba,Bh,An,this,Bj,h0.tm t u hu]
   ·cases h
  ·cases h
 | .cell b t::r,us,h=>by
  unfold Vs at h;split at h
  ·rename_i kd k o hkd hb;split at h
   ·rename_i cells ct hL;split at h
    ·rename_i u hu;split at h
     ·rename_i us' hus;cases h;have h1:=IZ h0 hus;have h2:=Nt (X.ok.kd _ _ hkd) (h0.lo k _ hL) (R2 hu ρ);have h3:=h0.tm b _ hb;simp only[TV.den,SV.den] at h3;have h4:(R3 a.tmps (.cell b t)).run X.P w=.ok (u.den ρ) w:=by
       simp only[R3,Ba,h3,asAddr,Bh,An,h2]
      simp only[Sc,Ba,h4,Bh,An,h1,Bj]
     ·cases h
    ·cases h
   ·cases h
  ·cases h
variable {A:Nat->Prop} {us:List TV}
theorem Mj {ρ:Nm} {a:Act} {w:World} (h0:Vw T L F A ρ a w) {fn:Func} (h:Vs X.tab T L fn.results.toList=some us):(results fn a.tmps).run X.P w=.ok (Uo ρ us) w:=by
 have h1:=IZ h0 h;have h2:(fn.results.mapM (R3 a.tmps)).run X.P w=.ok (us.map (TV.den ρ)).toArray w:=by
  rw[Array.mapM_eq_mapM_toList,Sem.run_map];rw[h1];rfl
 rw[LH];simp only[Ba,h2,An,Bh]
 congr 1
 match us with
 | []=>rfl
 | [u]=>rfl
 |u::u'::us=>simp[Uo]
def Xy (X:Fx) (res:List ResultVar) (mu:List MB) (Out:Gx) (T:TE) (L:LE) (n:Nat) (F:List Fact) (D:DF):Prop:=
 ∀a w,Rel X T L n F D a w->a.defers=[]/\∀fn:Func,fn.results.toList=res->∃v,(results fn a.tmps).run X.P w=.ok v w/\Res X.w0 X.A0 mu Out (.returned v) w
def Af1 (X:Fx) (ch:List PanicEntry) (mu:List MB) (Out:Gx) (T:TE) (L:LE) (n:Nat) (F:List Fact) (D:DF):Prop:=
 ∀a w,Rel X T L n F D a w->a.defers=[]/\Res X.w0 X.A0 mu Out (.panicked ch) w
def endK (X:Fx) (res:List ResultVar) (mu:List MB) (Out:Gx):KK:=λe T L n F D=>match e with
 | .normal=>Xy X res mu Out T L n F D
 | .ret=>Xy X res mu Out T L n F D
 | .panic ch=>Af1 X ch mu Out T L n F D
 |_=>False
def muS (L:LE):Nat->List MB->Option (List (List SV))
 |_,[]=>some []
 |i,x::r=>match Ah L i with
  |some (.c cs t)=>bif Nat.beq t x.2.2 then(match muS L (i+1) r with
   |some css=>some (cs::css)
   |none=>none) else none
  |_=>none
theorem IT:∀ {mu:List MB} {i:Nat} {css:List (List SV)},muS L i mu=some css->css.length=mu.length/\∀(j:Nat) (x:MB) (cs:List SV),mu[j]? =some x->css[j]? =some cs->Ah L (i+j)=some (.c cs x.2.2)
 | [],i,css,h=>by cases h;simp
 |x::r,i,css,h=>by
  unfold muS at h;split at h
  ·rename_i cs t hk;rw[Ew] at h;split at h
   ·rename_i ht;rw[Es] at ht;subst ht;split at h
    ·rename_i css' hc;cases h;obtain⟨h1,h2⟩:=IT hc;refine⟨by simp[h1],λj y cs2 hy hcs=>?_⟩;cases j with
     |zero=>simp at hy hcs;subst hy;subst hcs;exact hk
     |succ j=>have:=h2 j y cs2 (by simpa using hy) (by simpa using hcs);rwa[show i+1+j=i+(j+1) by omega] at this
    ·cases h
   ·cases h
  ·cases h
variable {Out:Gx} {css:List (List SV)} {mu:List MB}
theorem Afa {e:Ending} {a:Act} {w:World} {ρ:Nm} (h0:Rel0 X T L F D A ρ a w) {F1:List Fact} (hM:X.M=mu.map (·.1)/\X.N=mu.map (·.1)) (hmu:muS L 0 mu=some css) (hout:Out e (css.map (C4 ρ)) F1) (hF:∀f∈F1,f∈F):Res X.w0 X.A0 mu Out e w:=by
 obtain⟨h1,h2⟩:=IT hmu;refine⟨css.map (C4 ρ),F1,hout,by rw[<-hM.1];exact h0.kp,by simp[h1],?_,A,h0.a1,λb hb=>(h0.a2 b hb).1,λf hf=>h0.a3 f (hF f hf)⟩;intro i x c hx hc;simp only[Cq,Dn] at hc;obtain⟨cs,hcs,rfl⟩:=hc;have h3:=h2 i x cs hx hcs;rw[Bl] at h3;have h4:=h0.lo i _ h3;have h5:=h0.mb i x.1 (by rw[hM.2];simp[hx]);simp only[LC.holds] at h4;rw[<-h5];exact h4
theorem Al {res:List ResultVar} (F1:List Fact) (hh:Vs X.tab T L res=some us/\muS L 0 mu=some css) (hout:∀ρ,Out (.returned (Uo ρ us)) (css.map (C4 ρ)) F1) (hD:D=λ_=>[]:=by exact I) (hM:X.M=mu.map (·.1)/\X.N=mu.map (·.1):=by exact⟨I,I⟩) (hF:∀f∈F1,f∈F:=by exact tqF):Xy X res mu Out T L n F D:=by
 obtain⟨hres,hmu⟩:=hh;intro a w hr;obtain⟨A,ρ,h0⟩:=hr.one;refine⟨by rw[h0.df,hD],λfn hfn=>⟨Uo ρ us,Mj h0.toVw (by rw[hfn];exact hres),Afa h0 hM hmu (hout ρ) hF⟩⟩
theorem Jn {ch:List PanicEntry} (F1:List Fact) (hmu:muS L 0 mu=some css) (hout:∀ρ,Out (.panicked ch) (css.map (C4 ρ)) F1) (hD:D=λ_=>[]:=by exact I) (hM:X.M=mu.map (·.1)/\X.N=mu.map (·.1):=by exact⟨I,I⟩) (hF:∀f∈F1,f∈F:=by exact tqF):Af1 X ch mu Out T L n F D:=by
 intro a w hr;obtain⟨A,ρ,h0⟩:=hr.one;exact⟨by rw[h0.df,hD],Afa h0 hM hmu (hout ρ) hF⟩
theorem Eh {res:List ResultVar} (F':List Fact) (hF:∀A w,(∀f∈F,f.h A w)->∀f∈F',f.h A w) (h:Xy X res mu Out T L n F' D):Xy X res mu Out T L n F D:=λa w hr=>h a w (hr.more λA=>hF A w)
def U8:Nat->List TV->TE
 |_,[]=>[]
 |i,u::r=>(i,u)::U8 (i+1) r
theorem Rh:∀ {us:List TV} {i t:Nat} {x:TV},Ah (U8 i us) t=some x->∃j,t=i+j/\us[j]? =some x
 |u::r,i,t,x,h=>by
  rw[U8,As] at h;split at h
  ·rename_i e;cases h;exact⟨0,tqO,I⟩
  ·obtain⟨j,h1,h2⟩:=Rh h;exact⟨j+1,tqO,by simpa using h2⟩
def muL:Nat->List MB->LE
 |_,[]=>[]
 |i,x::r=>(i,.c (x.2.1.map SV.v) x.2.2)::muL (i+1) r
theorem CK:∀ {mu:List MB} {i k:Nat} {e:LC},Ah (muL i mu) k=some e->∃j x,k=i+j/\mu[j]? =some x/\e=.c (x.2.1.map SV.v) x.2.2
 |x::r,i,k,e,h=>by
  rw[muL,As] at h;split at h
  ·rename_i ek;cases h;exact⟨0,x,tqO,I,I⟩
  ·obtain⟨j,y,h1,h2,h3⟩:=CK h;exact⟨j+1,y,tqO,by simpa using h2,h3⟩
theorem Ji (ρ:Nm) (cs:List Value):C4 ρ (cs.map SV.v)=cs:=by simp[C4,Fp,Ll,SV.den]
theorem EQ {F0:List Fact} {w:World} {k:Nat} (hP:X.w0=w/\X.A0=A/\X.M=mu.map (·.1)/\X.N=mu.map (·.1)/\X.k=k) (hk:us.length<=k)
  (hnd:(mu.map (·.1)).Nodup) (hmu:∀x∈mu,w.heap[x.1]? =some (.cells x.2.1.toArray x.2.2 (0,0))/\¬A x.1) (hA:∀b,A b->b<w.heap.size) (hF:∀f∈F0,f.h A w) {args:List Value}
  (hargs:∀ρ:Nm,(∀i b,(mu.map (·.1))[i]? =some b->ρ i=b)->us.map (TV.den ρ)=args):
  Rel X (U8 0 us) (muL 0 mu) mu.length F0 (λ_=>[]) {tmps:=args.toArray++Array.replicate (k- args.toArray.size) undef,defers:=[]} w:=by
 obtain⟨rfl,rfl,hM,hN,rfl⟩:=hP;refine⟨λj e h=>?_,λi=>((mu.map (·.1))[i]?).getD 0,X.A0,λρ hρ=>?_⟩
 ·obtain⟨i,x,rfl,h2,_⟩:=CK h;have:=(Aa.1 h2).1;omega
 have hb:∀i b,(mu.map (·.1))[i]? =some b->ρ i=b:=λi b h=>by
  have:=(Aa.1 h).1;rw[hρ i (by simpa using this)];simp only[h,Hz]
 have ha:=hargs ρ hb;have hl:args.length=us.length:=by rw[<-ha];simp
 have bl:∀k e b,Ah (muL 0 mu) k=some e->e.blk ρ k=some b->∃x,mu[k]? =some x/\x.1=b/\(mu.map (·.1))[k]? =some b:=by
  intro k e b hke hbk;obtain⟨j,x,rfl,h2,rfl⟩:=CK hke;rw[Bl] at*;have h3:(mu.map (·.1))[j]? =some x.1:=by simp[h2]
  simp only[LC.blk,B7] at hbk;rw[hb j _ h3] at hbk;exact⟨x,h2,hbk,by rw[h3,hbk]⟩
 refine⟨⟨?_,?_,hF⟩,by simp;omega,I,Kp.refl _ _,?_,?_,λb h=>.inl h,?_,λi b h=>hb i b (by rwa[hN] at h)⟩
 ·intro t x hx;obtain⟨j,rfl,hj⟩:=Rh hx;have h1:args[j]? =some (x.den ρ):=by rw[<-ha];simp[hj]
  have hjl:=(Aa.1 h1).1;rw[Bl,Bp,Iq (by simpa using hjl)];simp[h1]
 ·intro k e hke;obtain⟨j,x,rfl,h2,rfl⟩:=CK hke;rw[Bl];simp only[LC.holds,Ji];rw[hb j x.1 (by simp[h2])];exact(hmu x (Av h2)).1
 ·intro k e b hke hbk;obtain⟨x,h2,rfl,h4⟩:=bl k e b hke hbk;rw[hM];exact .inl (Av h4)
 ·intro k k' e e' b hke hke' hbk hbk';obtain⟨x,h2,h3,h4⟩:=bl k e b hke hbk;obtain⟨x',h2',h3',h4'⟩:=bl k' e' b hke' hbk';exact(List.getElem?_inj (Aa.1 h4).1 hnd).1 (h4.trans h4'.symm)
 ·intro b hAb;refine⟨hA b hAb,λk e hke hbk=>?_⟩;obtain⟨x,h2,rfl,_⟩:=bl k e b hke hbk;exact(hmu x (Av h2)).2 hAb
theorem Ans {P:Program} {tab:Tab} {ok:tab.Ok P} {g:Nat} {fn:Func} {body:Code} {args:List Value} {mu:List MB} {F0:List Fact} {Out:Gx} {k:Nat} (us:List TV) (hf:P.funcs[g]? =some fn) (hk:fn.ntmps=k) (h:∀w0 A0,sx ⟨P,tab,ok,none,8,k,w0,A0,mu.map (·.1),mu.map (·.1)⟩ body (U8 0 us) (muL 0 mu) mu.length F0 (λ_=>[]) (endK ⟨P,tab,ok,none,8,k,w0,A0,mu.map (·.1),mu.map (·.1)⟩ fn.results.toList mu Out)) (hb:fn.body=some body:=by exact I) (hul:Nat.ble us.length k=true:=by exact I) (hargs:∀ρ:Nm,(∀i b,(mu.map (·.1))[i]? =some b->ρ i=b)->us.map (TV.den ρ)=args:=by exact λ_ _=>I):Cm P g args mu F0 Out:=by
 intro A w hnd hmu hA hF;refine(Fz (n:=8)).1 (T4 hf hb trivial ?_ I);rw[hk];have hk2:us.length<=k:=by rwa[G6] at hul
 refine Ht (h w A) _ ?_ _ _ (EQ ⟨I,I,I,I,I⟩ hk2 hnd hmu hA hF hargs);intro e T L n F D hK a w' hr;cases e with
 |normal=>
  obtain⟨h1,h2⟩:=hK a w' hr;obtain⟨v,h3,h4⟩:=h2 fn I;exact⟨h1,v,h3,h4⟩
 |ret=>
  obtain⟨h1,h2⟩:=hK a w' hr;obtain⟨v,h3,h4⟩:=h2 fn I;exact⟨h1,v,h3,h4⟩
 |panic ch=>exact hK a w' hr
 |exit id=>exact hK.elim
 |goto l=>exact hK.elim
 |outgrown=>exact hK.elim
end
def PV.lt (n:Nat):PV->Bool
 | .v _=>true
 | .p k _=>Nat.blt k n
def SV.lt (n:Nat):SV->Bool
 | .v _=>true
 | .p k _=>Nat.blt k n
 | .s k _ _ _=>Nat.blt k n
 | .f _ fi ca=>fi.all (PV.lt n)&&ca.all (PV.lt n)
def TV.lt (n:Nat):TV->Bool
 | .o x=>x.lt n
 | .t xs=>xs.all (SV.lt n)
 | .g xs=>xs.all (SV.lt n)
def LC.lt' (n:Nat):LC->Bool
 | .c cs _=>cs.all (SV.lt n)
 |_=>true
def PV.ren (r:Nm):PV->PV
 | .v x=>.v x
 | .p k o=>.p (r k) o
def SV.ren (r:Nm):SV->SV
 | .v x=>.v x
 | .p k o=>.p (r k) o
 | .s k o l c=>.s (r k) o l c
 | .f fn fi ca=>.f fn (fi.map (PV.ren r)) (ca.map (PV.ren r))
def TV.ren (r:Nm):TV->TV
 | .o x=>.o (x.ren r)
 | .t xs=>.t (xs.map (SV.ren r))
 | .g xs=>.g (xs.map (SV.ren r))
def LC.ren (r:Nm):LC->LC
 | .c cs t=>.c (cs.map (SV.ren r)) t
 |e=>e
variable {r ρ':Nm}
theorem PV.ren_den (h:∀j,j<n->ρ' j=ρ (r j)) {x:PV} (hx:x.lt n=true):x.den ρ'=(x.ren r).den ρ:=by
 cases x with
 |v x=>rfl
 |p k o=>simp only[PV.lt,Gr] at hx;simp[PV.den,PV.ren,h k hx]
theorem Ks {α:Type} {f g:α->Value} {xs:List α} {p:α->Bool} (hx:xs.all p=true) (h:∀x,p x=true->f x=g x):xs.map f=xs.map g:=
 Gv λx hm=>h x (A6.1 hx x hm)
theorem SV.ren_den (h:∀j,j<n->ρ' j=ρ (r j)) {x:SV} (hx:x.lt n=true):x.den ρ'=(x.ren r).den ρ:=by
 cases x with
 |v x=>rfl
 |p k o=>simp only[SV.lt,Gr] at hx;simp[SV.den,SV.ren,h k hx]
 |s k o l c=>simp only[SV.lt,Gr] at hx;simp[SV.den,SV.ren,h k hx]
 |f fn fi ca=>
  simp only[SV.lt,Ad] at hx;simp only[SV.den,SV.ren,Fp];rw[Ks hx.1 (g:=PV.den ρ ∘ PV.ren r) λx h1=>PV.ren_den h h1,Ks hx.2 (g:=PV.den ρ ∘ PV.ren r) λx h1=>PV.ren_den h h1]
theorem IE (h:∀j,j<n->ρ' j=ρ (r j)) {xs:List SV} (hx:xs.all (SV.lt n)=true):C4 ρ' xs=C4 ρ (xs.map (SV.ren r)):=by
 simp only[C4,Fp];exact Ks hx λx h1=>SV.ren_den h h1
theorem TV.ren_den (h:∀j,j<n->ρ' j=ρ (r j)) {x:TV} (hx:x.lt n=true):x.den ρ'=(x.ren r).den ρ:=by
 cases x with
 |o x=>exact SV.ren_den h hx
 |t xs=>simp only[TV.den,TV.ren,IE h hx]
 |g xs=>simp only[TV.den,TV.ren,IE h hx]
theorem LC.ren_holds (h:∀j,j<n->ρ' j=ρ (r j)) (hx:e.lt' n=true) (hk:k<n) (he:(e.ren r).holds ρ (r k) w):e.holds ρ' k w:=by
 cases e with
 |c cs t=>
  simp only[LC.holds,LC.ren] at he⊢;rw[h k hk,IE h hx];exact he
 |own=>exact he
 |obj o=>simp only[LC.holds,LC.ren] at he⊢;rw[h k hk];exact he
 |ob g o=>exact he
 |dead=>trivial
theorem LC.ren_blk (h:∀j,j<n->ρ' j=ρ (r j)) (hk:k<n):e.blk ρ' k=(e.ren r).blk ρ (r k):=by
 cases e<;>simp[LC.blk,LC.ren,h k hk]
def Abz (r:Nm) (n:Nat) (T:TE):TE->Prop
 | []=>True
 |(t,u)::rest=>(u.lt n=true/\Ah T t=some (u.ren r))/\Abz r n T rest
def Abx (r:Nm) (n:Nat) (L:LE):LE->Prop
 | []=>True
 |(k,e)::rest=>(k<n/\e.lt' n=true/\Ah L (r k)=some (e.ren r))/\Abx r n L rest
theorem PQ {r:Nm} {n:Nat} {T:TE}:∀ {T':TE} {t:Nat} {u:TV},Abz r n T T'->Ah T' t=some u->u.lt n=true/\Ah T t=some (u.ren r)
 |(t',u')::rest,t,u,h,hl=>by
  rw[As] at hl;split at hl
  ·rename_i e;cases hl;subst e;exact h.1
  ·exact PQ h.2 hl
theorem AM {r:Nm} {n:Nat} {L:LE}:∀ {L':LE} {k:Nat} {e:LC},Abx r n L L'->Ah L' k=some e->k<n/\e.lt' n=true/\Ah L (r k)=some (e.ren r)
 |(k',e')::rest,k,e,h,hl=>by
  rw[As] at hl;split at hl
  ·rename_i ek;cases hl;subst ek;exact h.1
  ·exact AM h.2 hl
section
variable {X:Fx} {ops l:List Oper} {o:Oper} {T:TE} {L:LE} {n:Nat} {F:List Fact} {D:DF} {K:KK} {k:KS} {c:Code}
variable {w:World}
theorem Rel.weak {a:Act} {T':TE} {L':LE} {n':Nat} {F':List Fact} {D':DF} (r:Nm) (h:Rel X T L n F D a w) (hT:Abz r n' T T') (hL:Abx r n' L L') (hi:∀j k,j<n'->k<n'->r j=r k->j=k)
  (hF:∀A:Nat->Prop,(∀f∈F,f.h A w)->∀f∈F',f.h A w) (hD:∀ρ ρ':Nm,(∀j,j<n'->ρ' j=ρ (r j))->D' ρ'=D ρ) (hM:∀i,i<X.N.length->i<n'/\r i=i):Rel X T' L' n' F' D' a w:=by
 obtain⟨hkb,ρ0,A,h0⟩:=h;refine⟨λk e hk=>(AM hL hk).1,λj=>ρ0 (r j),A,λρ hρ=>?_⟩;have h1:=h0 ρ0 λ_ _=>I;have bl:∀k e b,Ah L' k=some e->e.blk ρ k=some b->Ah L (r k)=some (e.ren r)/\(e.ren r).blk ρ0 (r k)=some b/\k<n':=by
  intro k e b hk hb;obtain⟨h2,h3,h4⟩:=AM hL hk;exact⟨h4,by rw[<-LC.ren_blk hρ h2];exact hb,h2⟩
 refine⟨⟨?_,?_,hF A h1.a3⟩,h1.sz,by rw[h1.df,hD ρ0 ρ hρ],h1.kp,?_,?_,h1.a1,?_,?_⟩
 ·intro t u hu;obtain⟨h2,h3⟩:=PQ hT hu;rw[TV.ren_den hρ h2];exact h1.tm t _ h3
 ·intro k e hk;obtain⟨h2,h3,h4⟩:=AM hL hk;exact LC.ren_holds hρ h3 h2 (h1.lo _ _ h4)
 ·intro k e b hk hb;obtain⟨h2,h3,_⟩:=bl k e b hk hb;exact h1.nw _ _ b h2 h3
 ·intro k k' e e' b hk hk' hb hb';obtain⟨h2,h3,h4⟩:=bl k e b hk hb;obtain⟨h2',h3',h4'⟩:=bl k' e' b hk' hb';exact hi k k' h4 h4' (h1.ds _ _ _ _ b h2 h2' h3 h3')
 ·intro b hb;refine⟨(h1.a2 b hb).1,λk e hk hbk=>?_⟩;obtain⟨h2,h3,_⟩:=bl k e b hk hbk;exact(h1.a2 b hb).2 _ _ h2 h3
 ·intro i b hib;have hi':=(Aa.1 hib).1;rw[hρ i (hM i hi').1];show ρ0 (r i)=b
  rw[(hM i hi').2];exact h1.mb i b hib
structure Sg where
 T:TE
 L:LE
 n:Nat
 F:List Fact
 D:DF
def Wk (X:Fx) (T:TE) (L:LE) (n:Nat) (F:List Fact) (D:DF) (σ:Sg):Prop:=∀a w,Rel X T L n F D a w->Rel X σ.T σ.L σ.n σ.F σ.D a w
theorem Anj {T':TE} {L':LE} {n':Nat} {F':List Fact} {D':DF} (r:Nm) (hT:Abz r n' T T') (hL:Abx r n' L L') (hi:∀j k,j<n'->k<n'->r j=r k->j=k)
  (hF:∀A w,(∀f∈F,f.h A w)->∀f∈F',f.h A w) (hD:∀ρ ρ':Nm,(∀j,j<n'->ρ' j=ρ (r j))->D' ρ'=D ρ) (hM:∀i,i<X.N.length->i<n'/\r i=i):Wk X T L n F D ⟨T',L',n',F',D'⟩:=
 λ_ w hr=>hr.weak r hT hL hi (λA=>hF A w) hD hM
def idN:Nm:=λj=>j
theorem O6 {σ:Sg} (hw:Wk X T L n F D σ) (h:OJs X o σ.T σ.L σ.n σ.F σ.D k K):OJs X o T L n F D k K:=λQ hQ Φ hΦ a w hr=>h Q hQ Φ hΦ a w (hw a w hr)
theorem Rl {σ:Sg} (hw:Wk X T L n F D σ) (h:sx X c σ.T σ.L σ.n σ.F σ.D K):CJs X c T L n F D K:=λQ hQ a w hr=>Ht h Q hQ a w (hw a w hr)
def Aar (X:Fx) {γ:Type} (p:γ->Prop) (σ:γ->Sg) (μ:γ->Nat) (g:γ) (K:KK):KK:=λe T L n F D=>match e with
 | .normal=>∃g',p g'/\μ g'<μ g/\Wk X T L n F D (σ g')
 |e=>K e T L n F D
theorem ID {γ:Type} (p:γ->Prop) (σ:γ->Sg) (μ:γ->Nat) (g0:γ) (h0:p g0) (hw:Wk X T L n F D (σ g0))
  (hr:∀g,p g->sx X c (σ g).T (σ g).L (σ g).n (σ g).F (σ g).D (Aar X p σ μ g K)):CJs X (.loop c) T L n F D K:=by
 intro Q hQ a w hrel;refine wpIn_loop_ghost (λm a w=>∃g,p g/\μ g=m/\Rel X (σ g).T (σ g).L (σ g).n (σ g).F (σ g).D a w) (μ g0) ⟨g0,h0,I,hw a w hrel⟩ ?_;rintro m a w ⟨g,hp,rfl,hg⟩;refine Ht (hr g hp) _ ?_ a w hg;intro e T L n F D hK a w hr;cases e with
 |normal=>
  obtain⟨g',h1,h2,h3⟩:=hK;exact⟨μ g',h2,g',h1,I,h3 a w hr⟩
 |exit id=>exact hQ _ _ _ _ _ _ hK a w hr
 |goto l=>exact hQ _ _ _ _ _ _ hK a w hr
 |ret=>exact hQ _ _ _ _ _ _ hK a w hr
 |panic ch=>exact hQ _ _ _ _ _ _ hK a w hr
 |outgrown=>exact hQ _ _ _ _ _ _ hK a w hr
variable {α:Type}
def slF (enc:α->List Value) (k:Nat) (v:Value) (xs:List α):Fact where
 h A w:=∃(a:Option Addr) (cap:Nat),v=.slice a xs.length cap/\(xs.length<=cap/\(a=none->cap=0))/\(xs=[]\/∃b off,a=some ⟨b,off,none⟩/\A b/\∀i x,xs[i]? =some x->∀j u,(enc x)[j]? =some u->w.cell? ⟨b,off+i*k+j,none⟩=some u)
 ok:=by
  rintro A A' w w' hA hw _ ⟨a,cap,h1,h2,h3⟩;refine⟨a,cap,h1,h2,?_⟩;rcases h3 with h3|⟨b,off,h4,h5,h6⟩
  ·exact .inl h3
  ·refine .inr ⟨b,off,h4,hA b h5,λi x hx j u hu=>?_⟩;rw[World.cell?_of_block (w:=w) (hw b h5)];exact h6 i x hx j u hu
variable {A:Nat->Prop} {enc:α->List Value} {v:Value} {xs:List α}
theorem Qp {k:Nat} (h:(slF enc k v xs).h A w) (hA:∀b,A b->b<w.heap.size):Sl enc k w v xs:=by
 obtain⟨a,cap,h1,h2,h3⟩:=h;refine⟨a,cap,h1,h2,?_⟩;rcases h3 with h3|⟨b,off,h4,h5,h6⟩
 ·exact .inl h3
 ·exact .inr ⟨b,off,h4,hA b h5,h6⟩
theorem Uz {k:Nat} (h:Sl enc k w v xs):(slF enc k v xs).h (λb=>b<w.heap.size) w:=by
 obtain⟨a,cap,h1,h2,h3⟩:=h;exact⟨a,cap,h1,h2,h3.imp id λ⟨b,off,h4,h5,h6⟩=>⟨b,off,h4,h5,h6⟩⟩
variable {cap m:Nat}
theorem Aia {k:Nat} {a:Option Addr} (h:(slF enc k (.slice a m cap) xs).h A w) (hx:xs≠ []):∃b off,a=some ⟨b,off,none⟩:=by
 obtain⟨a',cap',h1,_,h3⟩:=h;cases h1;rcases h3 with h3|⟨b,off,h4,_⟩
 ·exact absurd h3 hx
 ·exact⟨b,off,h4⟩
theorem YN {k:Nat} {a:Option Addr} (h:(slF enc k (.slice a m cap) xs).h A w):m=xs.length/\m<=cap:=by
 obtain⟨a',cap',h1,h2,_⟩:=h;cases h1;exact⟨I,h2.1⟩
theorem Eg {k b off i j:Nat} {x:α} {u:Value} (hx:xs[i]? =some x) (hu:(enc x)[j]? =some u) (A:Nat->Prop) (w:World) (h:(slF enc k (.slice (some ⟨b,off,none⟩) m cap) xs).h A w):w.cell? ⟨b,off+i*k+j,none⟩=some u:=by
 obtain⟨a',cap',h1,_,h3⟩:=h;cases h1;rcases h3 with h3|⟨b,off,h4,_,h6⟩
 ·subst h3;simp at hx
 ·cases h4;exact h6 i x hx j u hu
def R1 (X:Fx) (o:Oper) (T:TE) (L:LE) (n:Nat) (F:List Fact) (D:DF) (k:KS) (u:TV):Prop:=
 match E7 X.k o.dst u T with
 |some T'=>k T' L n F D
 |none=>False
theorem Au {u:TV} (hy:Yd X o T L F u) (h:R1 X o T L n F D k u):OJs X o T L n F D k K:=by
 unfold R1 at h;split at h
 ·rename_i T' hp;exact B8 hy (hp:=hp) h
 ·exact h.elim
variable {t:TypeId} {x:Operand}
theorem Ce {b o':Nat} (f:Fact) (hc:∀A w,f.h A w->w.cell? ⟨b,o',none⟩=some v) (ho:o.op=.load t x:=by exact I) (hk:Ah X.tab.kd t=some none:=by exact I) (hx:evS T x=some (.o (.v (.pointer (some ⟨b,o',none⟩)))):=by exact I) (hf:f∈F:=by exact tqS):Yd X o T L F (.o (.v v)):=by
 refine⟨by simp[Cw,ho],λA ρ a w h0=>?_⟩;obtain⟨d,i,hd,hi,hs,ha⟩:=Nx (X.ok.kd _ _ hk);have hv:=hc A w (h0.a3 f hf);simp[execOp,ho,h0.ev hx,TV.den,SV.den,Instr.loadAt,Instr.sureAddr,loadVar,ha,hv]
theorem Cu {b o':Nat} {vs:List Value} (f:Fact) (hc:∀A w,f.h A w->∀j u,vs[j]? =some u->w.cell? ⟨b,o'+j,none⟩=some u) (ho:o.op=.load t x:=by exact I) (hk:Ah X.tab.kd t=some (some vs.length):=by exact I) (hx:evS T x=some (.o (.v (.pointer (some ⟨b,o',none⟩)))):=by exact I) (hf:f∈F:=by exact tqS):Yd X o T L F (.g (vs.map SV.v)):=by
 refine⟨by simp[Cw,ho],λA ρ a w h0=>?_⟩;obtain⟨d,i,hd,hi,hs,ha⟩:=Nx (X.ok.kd _ _ hk);have hv:=hc A w (h0.a3 f hf);have:=R7 (P:=X.P) w ⟨b,o',none⟩ vs (λj v hj=>by rw[H5];exact hv j v hj);simp only[Hz] at hs;simp only[execOp,ho,h0.ev hx,TV.den,SV.den,Instr.loadAt,Instr.sureAddr,loadVar,Ba,Bh,An,ha,Rd,If,sizeOf,typeInfo,J2,hi,hs,this];rw[Ji]
theorem Jg {P:Program} {t:Nat} {p:Nat×Nat} (h:tyE P t=some p):P.underlying t=some (.slice p.1)/\∃i,P.info? p.1=some i/\i.size=p.2:=by
 unfold tyE at h;split at h
 ·rename_i e he;split at h
  ·rename_i i hi;cases h;exact⟨he,i,hi,I⟩
  ·cases h
 ·cases h
theorem Zv {P:Program} {t:Nat} {p:Nat×Nat×Nat} (h:tyA P t=some p):P.underlying t=some (.array p.1 p.2.1)/\∃i,P.info? p.2.1=some i/\i.size=p.2.2:=by
 unfold tyA at h;split at h
 ·rename_i m e he;split at h
  ·rename_i i hi;cases h;exact⟨he,i,hi,I⟩
  ·cases h
 ·cases h
variable {z:Int}
theorem Bb {t:TypeId} {x ix:Operand} {b off m cap i sz e:Nat} {ki:IntKind} (hz:z=(i:Int):=by exact I) (ho:o.op=.indexAddr t x ix:=by exact I) (he:Ah X.tab.el t=some (e,sz):=by exact I) (hx:evS T x=some (.o (.v (.slice (some ⟨b,off,none⟩) m cap))):=by exact I) (hix:evS T ix=some (.o (.v (.int ki z))):=by exact I) (hi:i<m:=by exact tqO):Yd X o T L F (.o (.v (.pointer (some ⟨b,off+i*sz,none⟩)))):=by
 subst hz;refine⟨by simp[Cw,ho],λA ρ a w h0=>?_⟩;obtain⟨h1,i',h2,h3⟩:=Jg (X.ok.el _ _ he);simp only at h1 h2 h3;simp[execOp,ho,h0.ev hx,h0.ev hix,TV.den,SV.den,Instr.indexAt,asIntOf,At h1,sizeOf,typeInfo,h2,h3,hi,H5]
theorem Ay {t:TypeId} {x ix:Operand} {j off m cap i sz e:Nat} {ki:IntKind} (hz:z=(i:Int):=by exact I) (ho:o.op=.indexAddr t x ix:=by exact I) (he:Ah X.tab.el t=some (e,sz):=by exact I) (hx:evS T x=some (.o (.s j off m cap)):=by exact I) (hix:evS T ix=some (.o (.v (.int ki z))):=by exact I) (hi:i<m:=by exact tqO):Yd X o T L F (.o (.p j (off+i*sz))):=by
 subst hz;refine⟨by simp[Cw,ho],λA ρ a w h0=>?_⟩;obtain⟨h1,i',h2,h3⟩:=Jg (X.ok.el _ _ he);simp only at h1 h2 h3;simp[execOp,ho,h0.ev hx,h0.ev hix,TV.den,SV.den,Instr.indexAt,asIntOf,At h1,sizeOf,typeInfo,h2,h3,hi,H5]
theorem Ek {t:TypeId} {x ix:Operand} {j off m i sz e:Nat} {ki:IntKind} (hz:z=(i:Int):=by exact I) (ho:o.op=.indexAddr t x ix:=by exact I) (he:Ah X.tab.ar t=some (m,e,sz):=by exact I) (hx:evS T x=some (.o (.p j off)):=by exact I) (hix:evS T ix=some (.o (.v (.int ki z))):=by exact I) (hi:i<m:=by exact tqD):Yd X o T L F (.o (.p j (off+i*sz))):=by
 subst hz;refine⟨by simp[Cw,ho],λA ρ a w h0=>?_⟩;obtain⟨h1,i',h2,h3⟩:=Zv (X.ok.ar _ _ he);simp only at h1 h2 h3;simp[execOp,ho,h0.ev hx,h0.ev hix,TV.den,SV.den,Instr.indexAt,asIntOf,At h1,sizeOf,typeInfo,h2,h3,hi,H5,Instr.sureAddr]
def Af7 (op:BinOp) (a b:Int):Option Int:=match op with| .add=>some (a+b)| .sub=>some (a- b)| .mul=>some (a*b)|_=>none
theorem Cb {bop:BinOp} {t2:TypeId} {y:Operand} {ki:IntKind} {p q r z:Int} (ho:o.op=.binOp bop t x y t2:=by exact I) (hx:evS T x=some (.o (.v (.int ki p))):=by exact I) (hy:evS T y=some (.o (.v (.int ki q))):=by exact I) (hr:Af7 bop p q=some r:=by exact I) (hz:ki.wrap r=z:=by exact tqC):Yd X o T L F (.o (.v (.int ki z))):=by
 subst hz;refine⟨by simp[Cw,ho],λA ρ a w h0=>?_⟩;have e1:=h0.ev hx;have e2:=h0.ev hy;simp only[TV.den,SV.den] at e1 e2;have hgd:(eqGuard bop t x y (.int ki p) (.int ki q)).run X.P w=.ok () w:=by
  unfold eqGuard;cases bop<;>simp
 unfold Af7 at hr;split at hr<;>cases hr<;>simp[execOp,ho,e1,e2,hgd,binOp,Op.intArith,TV.den,SV.den]
theorem Af {bop:BinOp} {t2:TypeId} {y:Operand} {ki:IntKind} {p q r:Int} (h:R1 X o T L n F D k (.o (.v (.int ki z)))) (ho:o.op=.binOp bop t x y t2:=by exact I) (hx:evS T x=some (.o (.v (.int ki p))):=by exact I) (hy:evS T y=some (.o (.v (.int ki q))):=by exact I) (hr:Af7 bop p q=some r:=by exact I) (hz:ki.wrap r=z:=by exact tqC):OJs X o T L n F D k K:=Au (Cb (hz:=hz) (ho:=ho) (hx:=hx) (hy:=hy) (hr:=hr)) h
theorem Ey {r:Int} (h1: -9223372036854775808<=r) (h2:r<=9223372036854775807):IntKind.i64.wrap r=r:=by
 simp only[IntKind.wrap,IntKind.bits,IntKind.signed,C8,Aq,ge_iff_le];split<;>omega
theorem NG {u:TV} (hd:Cw o=true) (hr:∀A ρ a w,Vw T L F A ρ a w->(execOp a.eval o).run X.P w=.ok (.value (u.den ρ)) w) (h:R1 X o T L n F D k u):OJs X o T L n F D k K:=
 Au ⟨hd,hr⟩ h
theorem VZ {P:Program} {g:FuncId} {args:List Value} {F0:List Fact} (h:Cm P g args [] F0 (Bd v)) (w:World) (hF:∀f∈F0,f.h (λb=>b<w.heap.size) w):Calls P g args.toArray w λe w'=>e=.returned v/\Below w.heap.size w w':=by
 refine(h (λb=>b<w.heap.size) w tqS (λx hx=>by simp at hx) (λ_ h=>h) hF).mono ?_;rintro e w' ⟨cs,F1,⟨rfl,_⟩,hk,_⟩;exact⟨I,hk.below⟩
end
section
variable {Fe:Fence} {nn:Nat} {P:Program} {ops:Array Oper} {Q:Exit->Act->World->Prop} {md:Region.Mode} {Tr:Nat->World->World->Prop}
def Ka (Fe:Fence) (nn:Nat) (P:Program) (md:Region.Mode) (ops:Array Oper) (Q:Exit->Act->World->Prop) (Tr:Nat->World->World->Prop):Nat->Array Bool->Act->World->Prop
 |0,listed,a,w=>Region.ready md ops listed=[]/\Q .normal a w
 |fuel+1,listed,a,w=>(Region.ready md ops listed=[]->Q .normal a w)/\
  ∀i∈Region.ready md ops listed,wpOpIn Fe nn P ops Q i (λa' w'=>Tr i w w'/\Ka Fe nn P md ops Q Tr fuel (listed.setIfInBounds i true) a' w') a w
theorem FI:∀(fuel:Nat) (listed:Array Bool) (a:Act) (w:World),Ka Fe nn P md ops Q Tr fuel listed a w->wpAnyIn Fe nn P md ops Q fuel listed a w
 |0,_,_,_,h=>h
 |fuel+1,_,_,_,h=>⟨h.1,λi hi=>wpOpIn_mono (λa' w' h'=>FI fuel _ a' w' h'.2) (h.2 i hi)⟩
def N9 (P:Program) (ops:Array Oper) (S:World->Prop) (o:Oper) (v:Value) (a:Act):Prop:=
 Cw o=true/\((Region.wanted o (yielded ops a.tmps)=true/\∀w,S w->(execOp a.eval o).run P w=.ok (.value v) w)\/(Region.wanted o (yielded ops a.tmps)=false/\v=undef))
variable {S:World->Prop}
theorem N9.of_same {o:Oper} {v:Value} {a a':Act} (hy:N9 P ops S o v a) (he:execOp a'.eval o=execOp a.eval o) (hw:Region.wanted o (yielded ops a'.tmps)=Region.wanted o (yielded ops a.tmps)):N9 P ops S o v a':=by
 unfold N9 at*;rw[he,hw];exact hy
theorem N9.wpOpIn {S:World->Prop} (hF:∀f,Fe.fn f) {i:Nat} {o:Oper} {v:Value} {a:Act} (hi:ops[i]? =some o) (hy:N9 P ops S o v a) {K:Act->World->Prop} {w:World} (hS:S w) (h:K (a.put o.dst v) w):wpOpIn Fe nn P ops Q i K a w:=by
 unfold Go.wpOpIn;simp only[hi];obtain⟨hd,⟨hw,hv⟩|⟨hw,rfl⟩⟩:=hy
 ·simp only[hw,If,Oper.wpIn];refine⟨λf _=>hF f,?_⟩;rw[T3 _ _ _ (CN hd),hv w hS];exact h
 ·simp only[hw,Hu,Mu];exact⟨λf _=>hF f,h⟩
theorem XK (hF:∀f,Fe.fn f) {j:Nat} {oi oj:Oper} {v:Value} (hj:ops[j]? =some oj) (hdj:Cw oj=true) (hap:oi.apart ops oj=true) (hsi:∀cs b,oi.op≠.select cs b) (hsj:∀cs b,oj.op≠.select cs b)
  (hQ:∀c a w,Q (.panic c) (a.put oi.dst v) w->Q (.panic c) a w) {K:Act->World->Prop} {a:Act} {w:World}
  (hy:N9 P ops S oi v a) (h:wpOpIn Fe nn P ops Q j K (a.put oi.dst v) w):wpOpIn Fe nn P ops Q j (λa' w'=>N9 P ops S oi v a'/\K (a'.put oi.dst v) w') a w:=by
 obtain⟨h1,h2,h3⟩:=Oper.apart_spec hap;have keep:∀(a:Act),N9 P ops S oi v a->∀u,N9 P ops S oi v (a.put oj.dst u):=λa hy u=>
  hy.of_same (execOp_put oi hsi a oj.dst u h3) (wanted_put oi a oj.dst u h3)
 have keepD:∀d,N9 P ops S oi v {a with defers:=d::a.defers}:=λd=>hy.of_same I I;unfold Go.wpOpIn at*;simp only[hj] at*;rw[wanted_put oj a oi.dst v h1] at h;split
 ·rename_i hw;simp only[hw,If] at h;unfold Oper.wpIn at*;refine⟨λf _=>hF f,?_⟩;have h:=h.2;rw[T3 _ _ _ (CN hdj),execOp_put oj hsj a oi.dst v h1] at h;rw[T3 _ _ _ (CN hdj)];generalize (execOp a.eval oj).run P w=r at*;cases r with
  |ok x w'=>
   cases x<;>simp only[Oper.uponIn] at h⊢
   case value u=>exact⟨keep a hy u,by rw[<-Pg a v u h2];exact h⟩
   case skip=>exact⟨keep a hy _,by rw[<-Pg a v undef h2];exact h⟩
   case defer d=>
    refine⟨keep _ (keepD d) _,?_⟩;rw[<-Pg _ v undef h2,<-Act.put_defers];exact h
   case enter f args=>
    refine⟨h.1,Mk h.2 λe w'' he=>?_⟩;cases e with
    |returned u=>exact⟨keep a hy u,by rw[<-Pg a v u h2];exact he⟩
    |panicked c=>exact hQ _ _ _ he
    |outgrown=>exact he
   case row row args=>exact⟨h.1,RowsIn.mono h.2 λu w'' he=>⟨keep a hy u,by rw[<-Pg a v u h2];exact he⟩⟩
   case round l f tmps assign body=>
    refine⟨h.1,RoundIn.mono h.2 λe w'' he=>?_⟩;cases e with
    |returned u=>exact⟨keep a hy u,by rw[<-Pg a v u h2];exact he⟩
    |panicked c=>exact hQ _ _ _ he
    |outgrown=>exact he
  |halt x w'=>
   cases x<;>simp only[Oper.uponIn] at h⊢
   case panic u=>exact hQ _ _ _ h
 ·rename_i hw;simp only[hw] at h;exact⟨λf _=>hF f,keep a hy _,by rw[<-Pg a v undef h2];exact h.2⟩
theorem FJ (hF:∀f,Fe.fn f) (hnd:∀(j:Nat) (o:Oper),ops[j]? =some o->Cw o=true) {i:Nat} {oi:Oper} {v:Value} (hi:ops[i]? =some oi) (hsel:∀(j:Nat) (o:Oper) cs b,ops[j]? =some o->o.op≠.select cs b)
  (hQ:∀c a w,Q (.panic c) (a.put oi.dst v) w->Q (.panic c) a w) (hTi:∀w,S w->Tr i w w)
  (hTr:∀j oj w w',ops[j]? =some oj->j≠i->(∀e∈oj.after,Region.binds md e=true->e.on≠i)->Tr j w w'->S w->S w'):
  ∀(fuel:Nat) (listed:Array Bool) (a:Act) (w:World),
   (∀j oj,ops[j]? =some oj->j≠i->listed.getD j true=false->(∀e∈oj.after,Region.binds md e=true->e.on≠i)->oi.apart ops oj=true)->
   i∈Region.ready md ops listed->N9 P ops S oi v a->S w->
   Ka Fe nn P md ops Q Tr fuel (listed.setIfInBounds i true) (a.put oi.dst v) w->Ka Fe nn P md ops Q Tr (fuel+1) listed a w:=by
 intro fuel;induction fuel with
 |zero=>
  intro listed a w _ hr hy hS H;refine⟨λh=>(by rw[h] at hr;cases hr),λj hj=>?_⟩;by_cases hji:j=i
  ·subst hji;exact hy.wpOpIn hF hi hS ⟨hTi w hS,H⟩
  ·have:=ready_mono hj hji;rw[H.1] at this;cases this
 |succ fuel ih=>
  intro listed a w hfree hr hy hS H;refine⟨λh=>(by rw[h] at hr;cases hr),λj hj=>?_⟩;by_cases hji:j=i
  ·subst hji;exact hy.wpOpIn hF hi hS ⟨hTi w hS,H⟩
  ·have h1:=H.2 j (ready_mono hj hji);obtain⟨hjun,oj,hoj,hall⟩:=mem_ready.1 hj;have hnot:∀e∈oj.after,Region.binds md e=true->e.on≠i:=λe he hb heq=>by
    have h1:=hall e he hb;have h0:=(mem_ready.1 hr).1;rw[heq] at h1;rcases Pj i listed.size with h'|h'
    ·simp[h'] at h0 h1;rw[h0] at h1;cases h1
    ·simp[Tf h'] at h1
   have h2:=XK hF hoj (hnd j oj hoj) (hfree j oj hoj hji hjun hnot) (λcs b=>hsel i oi cs b hi) (λcs b=>hsel j oj cs b hoj) hQ hy h1;have hfree':∀k ok,ops[k]? =some ok->k≠i->(listed.setIfInBounds j true).getD k true=false->
     (∀e∈ok.after,Region.binds md e=true->e.on≠i)->oi.apart ops ok=true:=λk ok hk hki hun hno=>by
    refine hfree k ok hk hki ?_ hno;by_cases hjk:j=k
    ·subst hjk;exact hjun
    ·rw[getD_set_ne true hjk] at hun;exact hun
   refine wpOpIn_mono (λa' w' h3=>?_) h2;obtain⟨hy',hT,h4⟩:=h3;refine⟨hT,ih (listed.setIfInBounds j true) a' w' hfree' (ready_mono hr (Ut hji)) hy' (hTr j oj w w' hoj hji hnot hT hS) ?_⟩;rw[Array.setIfInBounds_comm _ _ hji];exact h4
end
def BH (ops:List Oper) (j i:Nat):Bool:=match ops[j]? with
 |some o=>o.after.toList.any λe=>Region.binds .any e&&Nat.beq e.on i
 |none=>false
inductive Sd where
 |z
 |op (i:Nat) (r:Sd)
 |alt (l r:Sd)
def tqs:Nat->Nat->Sd->Sd
 |_,0,s=>s
 |i,n+1,s=>.op i (tqs (i+1) n s)
def Sd.len:Sd->Nat
 | .z=>0
 | .op _ r=>r.len+1
 | .alt l _=>l.len
def Sd.heads:Sd->List Nat
 | .z=>[]
 | .op i _=>[i]
 | .alt l r=>l.heads++r.heads
def Kg (ops:List Oper) (eff:List Nat):Bool->Sd->Array Bool->Bool
 |u,.z,listed=> !u&&(Region.ready .any ops.toArray listed).isEmpty
 |u,.op i r,listed=>(if u then eff.contains i else if eff.contains i then Region.ready .any ops.toArray listed == [i] else(Region.ready .any ops.toArray listed).contains i&&Region.free .any ops.toArray listed i)&&Kg ops eff false r (listed.setIfInBounds i true)
 |u,.alt l r,listed=>(u||Region.ready .any ops.toArray listed == (Sd.alt l r).heads)&&Kg ops eff true l listed&&Kg ops eff true r listed&&Nat.beq l.len r.len
def ZN (ops:List Oper) (eff:List Nat) (sch:Sd):Bool:=Kg ops eff false sch (Array.replicate ops.length false)&&Region.noSelect ops.toArray&&ops.all Cw&&Nat.beq sch.len ops.length
def Ao3 (o:Oper) (T:TE):Option Nat:=match o.op with
 | .load _ x=>match evS T x with
  |some (.o (.p k _))=>some k
  |_=>none
 |_=>none
def LC.isC:LC->Bool
 | .c _ _=>true
 | .obj _=>true
 |_=>false
def GG (j n0:Nat) (st:List (Nat×Nat)) (L L':LE):List Nat->Prop
 | []=>True
 |k::r=>(st.any (λp=>Nat.beq p.1 j&&Nat.beq p.2 k)=true\/(Ah L' k=Ah L k/\k<n0/\∃e,Ah L k=some e/\e.lt' n0=true/\e.isC=true))/\GG j n0 st L L' r
structure Dw where
 ops:List Oper
 eff:List Nat
 vk:List Nat
 st:List (Nat×Nat)
 vf:List Fact
 n0:Nat
 T0:TE
def Aai:TE->TE->Prop
 | [],_=>True
 |(t,u)::r,T=>Ah T t=some u/\Aai r T
def Aa7 (T0:TE) (K:KK):KK:=λe T L n F D=>match e with
 | .panic c=>Aai T0 T/\K (.panic c) T0 L n F D
 |e=>K e T L n F D
def AG:List Nat->TE->TE
 | [],_=>[]
 |t::r,T=>match Ah T t with
  |some u=>(t,u)::AG r T
  |none=>AG r T
def TD (T0:TE) (ops:List Oper):Bool:=ops.all λo=>match o.dst with
 |some d=>(Ah T0 d).isNone
 |none=>true
def TkS (X:Fx) (W:Dw) (o:Oper) (T:TE) (Lq:LE) (k:TE->Prop):Prop:=∃u,Yd X o T Lq W.vf u/\match E7 X.k o.dst u T with
 |some T'=>k T'
 |none=>False
def Am4 (W:Dw) (i:Nat) (o:Oper) (T:TE) (L:LE):Option LE:=
 match Ao3 o T with
 |none=>some []
 |some q=>match Ah L q with
  |some e=>bif (Nat.blt q W.n0&&(e.lt' W.n0&&e.isC))&&(W.vk.any (Nat.beq q)&&W.st.all λp=> !(Nat.beq p.2 q)||BH W.ops p.1 i) then some [(q,e)] else none
  |none=>none
def GC (X:Fx) (W:Dw) (i:Nat) (o:Oper) (T:TE) (L:LE) (k:TE->Prop):Prop:=
 match o.op with
 | .pick c a b=>match evS T c with
  |some (.o (.v (.bool t)))=>brB t (match evS T a with
    |some u=>(match E7 X.k o.dst u T with|some T'=>k T'|none=>False)
    |none=>False) (match evS T b with
    |some u=>(match E7 X.k o.dst u T with|some T'=>k T'|none=>False)
    |none=>False)
  |_=>False
 |op=>match Am4 W i o T L with
  |some Lq=>match Acc X.tab op T Lq with
   |some u=>(match E7 X.k o.dst u T with|some T'=>k T'|none=>False)
   |none=>TkS X W o T Lq k
  |none=>TkS X W o T [] k
def dx (X:Fx) (W:Dw):Sd->TE->LE->Nat->List Fact->DF->KK->Prop
 | .z,T,L,n,F,D,K=>K .normal T L n F D
 | .alt l r,T,L,n,F,D,K=>dx X W l T L n F D K/\dx X W r T L n F D K
 | .op i r,T,L,n,F,D,K=>match W.ops[i]? with
  |none=>False
  |some o=>
   match o.guard with
   |none=>bif W.eff.any (Nat.beq i) then opK X o T L n F D (λT' L' n' F' D'=>(GG i W.n0 W.st L L' W.vk/\∀f∈W.vf,f∈F')/\dx X W r T' L' n' F' D' K) (Aa7 W.T0 K) else GC X W i o T L λT'=>dx X W r T' L n F D K
   |some (j,b)=>match (W.ops[j]?).bind (·.dst) with
    |some d=>match Ah T d with
     |some (.o (.v (.tuple _)))=>match E7 X.k o.dst (.o (.v undef)) T with|some T'=>dx X W r T' L n F D K|none=>False
     |some (.o (.v (.bool c)))=>bif b then
       brB c (bif W.eff.any (Nat.beq i) then opK X o ((d,.o (.v (.bool true)))::T) L n F D (λT' L' n' F' D'=>(GG i W.n0 W.st L L' W.vk/\∀f∈W.vf,f∈F')/\dx X W r T' L' n' F' D' K) (Aa7 W.T0 K) else GC X W i o ((d,.o (.v (.bool true)))::T) L λT'=>dx X W r T' L n F D K)
        (match E7 X.k o.dst (.o (.v undef)) ((d,.o (.v (.bool false)))::T) with|some T'=>dx X W r T' L n F D K|none=>False)
      else brB c (match E7 X.k o.dst (.o (.v undef)) ((d,.o (.v (.bool true)))::T) with|some T'=>dx X W r T' L n F D K|none=>False)
        (bif W.eff.any (Nat.beq i) then opK X o ((d,.o (.v (.bool false)))::T) L n F D (λT' L' n' F' D'=>(GG i W.n0 W.st L L' W.vk/\∀f∈W.vf,f∈F')/\dx X W r T' L' n' F' D' K) (Aa7 W.T0 K) else GC X W i o ((d,.o (.v (.bool false)))::T) L λT'=>dx X W r T' L n F D K)
     |_=>False
    |none=>False
def nmN (N:List Nat):Nm:=λj=>(N[j]?).getD 0
def TrD (X:Fx) (W:Dw) (j:Nat) (w w':World):Prop:=
 (∃A:Nat->Prop,∀f∈W.vf,f.h A w')/\∀q,W.vk.any (Nat.beq q)=true->W.st.any (λp=>Nat.beq p.1 j&&Nat.beq p.2 q)=false->w'.heap[nmN X.N q]? =w.heap[nmN X.N q]?
def qNP (X:Fx) (T0:TE) (K:KK) (Q:Exit->Act->World->Prop):Exit->Act->World->Prop:=λe a w=>match e with
 | .panic c=>∃L n F D,K (.panic c) T0 L n F D/\Rel X T0 L n F D a w
 |e=>Q e a w
theorem KP:∀ {T0 T:TE},Aai T0 T->∀t x,Ah T0 t=some x->Ah T t=some x
 |(t',u)::r,T,h,t,x,hx=>by
  rw[As] at hx;split at hx
  ·rename_i e;cases hx;rw[e];exact h.1
  ·exact KP h.2 t x hx
theorem OY {T0:TE} (h:TD T0 ops=true) (ho:o∈ops) (hd:o.dst=some d):Ah T0 d=none:=by
 have:=A6.1 h o ho;rw[hd] at this;simpa using this
theorem Rel.drop (h:Rel X T L n F D a w) (hs:∀t x,Ah T' t=some x->Ah T t=some x):Rel X T' L n F D a w:=by
 obtain⟨hkb,ρ0,A,h0⟩:=h;refine⟨hkb,ρ0,A,λρ hρ=>?_⟩;have h1:=h0 ρ hρ;exact⟨⟨λt x hx=>h1.tm t x (hs t x hx),h1.lo,h1.a3⟩,h1.sz,h1.df,h1.kp,h1.nw,h1.ds,h1.a1,h1.a2,h1.mb⟩
theorem Rel.unput {d:Option Nat} (h:Rel X T L n F D (a.put d v) w) (hd:∀k,d=some k->Ah T k=none):Rel X T L n F D a w:=by
 cases d with
 |none=>exact h
 |some k=>
  obtain⟨hkb,ρ0,A,h0⟩:=h;refine⟨hkb,ρ0,A,λρ hρ=>?_⟩;have h1:=h0 ρ hρ;refine⟨⟨λt x hx=>?_,h1.lo,h1.a3⟩,by have:=h1.sz;simpa [Act.put] using this,h1.df,h1.kp,h1.nw,h1.ds,h1.a1,h1.a2,h1.mb⟩;have h2:=h1.tm t x hx;have:k≠t:=λe=>by rw[<-e,hd k I] at hx;cases hx
  simp only[Act.put,Bp] at h2⊢;rwa[Dz this] at h2
theorem Aad {x:PV}:x.ren idN=x:=by cases x<;>rfl
theorem Sn {x:SV}:x.ren idN=x:=by
 cases x with
 |f fn fi ca=>
  have h:∀l:List PV,l.map (PV.ren idN)=l:=λl=>by
   induction l with
   |nil=>rfl
   |cons a l ih=>rw[Bj,ih,Aad]
  simp only[SV.ren,h]
 |_=>rfl
theorem Aac:e.ren idN=e:=by
 cases e with
 |c cs t=>
  have h:∀l:List SV,l.map (SV.ren idN)=l:=λl=>by
   induction l with
   |nil=>rfl
   |cons a l ih=>rw[Bj,ih,Sn]
  simp only[LC.ren,h]
 |_=>rfl
theorem Tm {q:Nat} (h:∀j,j<n->ρ' j=ρ j) (hl:e.lt' n=true) (hq:q<n) (he:e.holds ρ q w):e.holds ρ' q w:=
 LC.ren_holds (r:=idN) h hl hq (by rw[Aac];exact he)
theorem Rel0.nm (h:Rel0 X T L F D A ρ a w) (hj:j<X.N.length):nmN X.N j=ρ j:=by
 rw[h.mb j _ (A8 hj)];simp[nmN,hj]
theorem Ala (hd:Ah T d=some u) (hr:Rel X T L n F D a w):Rel X ((d,u)::T) L n F D a w:=by
 obtain⟨hkb,ρ0,A,h0⟩:=hr;refine⟨hkb,ρ0,A,λρ hρ=>?_⟩;have h1:=h0 ρ hρ;refine⟨⟨λt x hx=>?_,h1.lo,h1.a3⟩,h1.sz,h1.df,h1.kp,h1.nw,h1.ds,h1.a1,h1.a2,h1.mb⟩;rw[As] at hx;split at hx
 ·rename_i e;rw[e];cases hx;exact h1.tm d _ hd
 ·exact h1.tm t x hx
theorem Oper.wpIn_mono_q {Fe:Fence} {nn:Nat} {K K':Act->World->Prop} {Q Q':Exit->Act->World->Prop} (hq:∀e a w,Q e a w->Q' e a w) (h:∀a w,K a w->K' a w) (hh:o.wpIn Fe nn P a w K Q):o.wpIn Fe nn P a w K' Q':=by
 have lo:LetsOut Q->LetsOut Q':=λ⟨a,w,h⟩=>⟨a,w,hq _ _ _ h⟩;unfold Oper.wpIn at*;refine⟨hh.1,?_⟩;have hh:=hh.2;generalize (o.semAt Fe.round a.eval).run P w=r at*;cases r with
 |ok x w'=>
  cases x<;>simp only[Oper.uponIn] at hh⊢ <;>
   first
    |exact h _ _ hh
    |exact⟨hh.1,Mk hh.2 λe w'' he=>by cases e<;>first|exact h _ _ he|exact hq _ _ _ he|exact lo he⟩
    |exact⟨hh.1,RowsIn.mono hh.2 λ_ _ he=>h _ _ he⟩
    |exact⟨hh.1,RoundIn.mono hh.2 λe w'' he=>by cases e<;>first|exact h _ _ he|exact hq _ _ _ he|exact lo he⟩
 |halt x w'=>cases x<;>simp only[Oper.uponIn] at hh⊢ <;>exact hq _ _ _ hh
theorem S0 {Fe:Fence} {nn:Nat} {P:Program} {md:Region.Mode} {ops:Array Oper} {Q Q':Exit->Act->World->Prop} (hq:∀e a w,Q e a w->Q' e a w):∀(fuel:Nat) (listed:Array Bool) (a:Act) (w:World),wpAnyIn Fe nn P md ops Q fuel listed a w->wpAnyIn Fe nn P md ops Q' fuel listed a w
 |0,_,_,_,h=>⟨h.1,hq _ _ _ h.2⟩
 |fuel+1,_,_,_,h=>⟨λh0=>hq _ _ _ (h.1 h0),λi hi=>by
  have h2:=h.2 i hi;unfold wpOpIn at h2⊢;split
  ·exact S0 hq fuel _ _ _ (by simpa [*] using h2)
  ·rename_i o ho;simp only[ho] at h2;split
   ·rename_i hw;simp only[hw,If] at h2;exact Oper.wpIn_mono_q hq (λa w=>S0 hq fuel _ a w) h2
   ·rename_i hw;simp only[hw] at h2;exact⟨h2.1,S0 hq fuel _ _ _ h2.2⟩⟩
section
variable {X:Fx} {W:Dw} {T:TE} {L:LE} {n:Nat} {F:List Fact} {D:DF} {K:KK}
theorem Ab1 {KX:KK} {i:Nat} {o:Oper} {m:Nat} {listed:Array Bool} {Q:Exit->Act->World->Prop} {a:Act} {w:World} (hsel:Region.noSelect W.ops.toArray=true) (hnd:W.ops.all Cw=true) (hN:X.N.length=W.n0) (hoff:TD W.T0 W.ops=true)
  (hr:i∈Region.ready .any W.ops.toArray listed) (hf:Region.free .any W.ops.toArray listed i=true) (ho:W.ops[i]? =some o) (hg:o.guard=none\/∃j b,o.guard=some (j,b)/\Rp W.ops j T=some b)
  (hrel:Rel X T L n F D a w) (hV:∃A:Nat->Prop,∀f∈W.vf,f.h A w) {k:TE->Prop} (hk:∀T',k T'->∀a,Rel X T' L n F D a w->Ka X.fe X.nn X.P .any W.ops.toArray (qNP X W.T0 KX Q) (TrD X W) m (listed.setIfInBounds i true) a w)
  (h:GC X W i o T L k):Ka X.fe X.nn X.P .any W.ops.toArray (qNP X W.T0 KX Q) (TrD X W) (m+1) listed a w:=by
 have ho':W.ops.toArray[i]? =some o:=by simpa using ho
 have hdef:Cw o=true:=A6.1 hnd o (Av ho);have key:∀(u:TV) (Lq:LE) (T':TE),(∀q e,Ah Lq q=some e->Lq=[(q,e)]/\Ah L q=some e/\q<W.n0/\e.lt' W.n0=true/\e.isC=true/\W.vk.any (Nat.beq q)=true/\W.st.all (λp=> !(Nat.beq p.2 q)||BH W.ops p.1 i)=true)->
   Yd X o T Lq W.vf u->E7 X.k o.dst u T=some T'->k T'->Ka X.fe X.nn X.P .any W.ops.toArray (qNP X W.T0 KX Q) (TrD X W) (m+1) listed a w:=by
  intro u Lq T' hLq hy hp hkT;obtain⟨A1,ρ1,h1⟩:=hrel.one;have hw:Region.wanted o (yielded W.ops.toArray a.tmps)=true:=by
   rcases hg with hg|⟨j,b,hg,hj⟩
   ·exact Tt hg _
   ·rw[Ng hg (h1.guard hj)];simp
  have hgood:∀w',((∃A:Nat->Prop,∀f∈W.vf,f.h A w')/\∀q e,Ah Lq q=some e->e.holds (nmN X.N) q w')->(execOp a.eval o).run X.P w'=.ok (.value (u.den ρ1)) w':=by
   rintro w' ⟨⟨A,hA⟩,hB⟩;refine hy.2 A ρ1 a w' ⟨h1.tm,λq e hq=>?_,hA⟩;obtain⟨_,h2,h3,h4,_,_⟩:=hLq q e hq;exact Tm (λj hj=>(h1.nm (by rw[hN];exact hj)).symm) h4 h3 (hB q e hq)
  have hS0:(∃A:Nat->Prop,∀f∈W.vf,f.h A w)/\∀q e,Ah Lq q=some e->e.holds (nmN X.N) q w:=by
   refine⟨hV,λq e hq=>?_⟩;obtain⟨_,h2,h3,h4,_,_⟩:=hLq q e hq;exact Tm (λj hj=>h1.nm (by rw[hN];exact hj)) h4 h3 (h1.lo q e h2)
  refine FJ (S:=λw'=>(∃A:Nat->Prop,∀f∈W.vf,f.h A w')/\∀q e,Ah Lq q=some e->e.holds (nmN X.N) q w') (λ_=>trivial) (λj oj hj=>A6.1 hnd oj (Av (by simpa using hj))) ho' (Region.noSelect_spec hsel)
   (λc a w ⟨L',n',F',D',hK,hR⟩=>⟨L',n',F',D',hK,hR.unput λk hk=>OY hoff (Av ho) hk⟩) (λw' hS=>⟨hS.1,λ_ _ _=>I⟩) ?_ m listed a w (Region.free_spec ho' hf) hr ⟨hdef,.inl ⟨hw,hgood⟩⟩ hS0 ?_
  ·intro j oj w1 w2 hj hji hno hT hS;refine⟨hT.1,λq e hq=>?_⟩;obtain⟨_,h2,h3,h4,h45,h5,h6⟩:=hLq q e hq;have hst:W.st.any (λp=>Nat.beq p.1 j&&Nat.beq p.2 q)=false:=by
    rw[Bo];intro hx;obtain⟨p,hp1,hp2⟩:=Jr.1 hx;simp only[Ad,Es] at hp2;have h7:=A6.1 h6 p hp1;simp only[hp2.2,Nat.beq_refl,Jz,Tw] at h7;unfold BH at h7;rw[hp2.1,show W.ops[j]? =some oj by simpa using hj] at h7;obtain⟨e',he1,he2⟩:=Jr.1 h7;simp only[Ad,Es] at he2;exact hno e' (by simpa using he1) he2.1 he2.2
   refine LC.keep (hS.2 q e hq) λb hb=>?_;have hbq:b=nmN X.N q\/e.isC=false:=by
    cases e with
    |c cs t=>simp only[LC.blk,B7] at hb;exact .inl hb.symm
    |obj ob=>simp only[LC.blk,B7] at hb;exact .inl hb.symm
    |dead=>simp[LC.blk] at hb
    |own x es sz m cs=>exact .inr I
    |ob g o=>exact .inr I
   rcases hbq with rfl|hbq
   ·exact hT.2 q h5 hst
   ·rw[hbq] at h45;cases h45
  ·exact hk T' hkT _ (hrel.put (λA ρ h2=>by
    obtain⟨A',hA'⟩:=hV;have h3:=hgood w hS0;have h4:=hy.2 A' ρ a w ⟨h2.tm,λq e hq=>h2.lo q e (hLq q e hq).2.1,hA'⟩;rw[h3] at h4;injection h4 with h5 h6;injection h5) hp)
 have keyT:∀Lq:LE,(∀q e,Ah Lq q=some e->Lq=[(q,e)]/\Ah L q=some e/\q<W.n0/\e.lt' W.n0=true/\e.isC=true/\W.vk.any (Nat.beq q)=true/\W.st.all (λp=> !(Nat.beq p.2 q)||BH W.ops p.1 i)=true)->TkS X W o T Lq k->Ka X.fe X.nn X.P .any W.ops.toArray (qNP X W.T0 KX Q) (TrD X W) (m+1) listed a w:=by
  rintro Lq hLq ⟨u,hy,h⟩;split at h
  ·rename_i T' hp;exact key u Lq T' hLq hy hp h
  ·exact h.elim
 unfold GC at h;split at h
 ·rename_i c a' b' hop;split at h
  ·rename_i t ht;have kp:∀x,(t=true->x=a')->(t=false->x=b')->(match evS T x with
     |some u=>(match E7 X.k o.dst u T with|some T'=>k T'|none=>False)
     |none=>False)->Ka X.fe X.nn X.P .any W.ops.toArray (qNP X W.T0 KX Q) (TrD X W) (m+1) listed a w:=by
    intro x h1 h2 h;split at h
    ·rename_i u hu;split at h
     ·rename_i T' hp;refine key u [] T' (λq e hq=>by cases hq) ⟨hdef,λA ρ a w h0=>?_⟩ hp h;have e1:=h0.ev ht;simp only[TV.den,SV.den] at e1;cases t
      ·simp[execOp,hop,e1,asBool,<-h2 I,h0.ev hu]
      ·simp[execOp,hop,e1,asBool,<-h1 I,h0.ev hu]
     ·exact h.elim
    ·exact h.elim
   cases t
   ·exact kp b' (λh=>by cases h) (λ_=>I) h
   ·exact kp a' (λ_=>I) (λh=>by cases h) h
  ·exact h.elim
 ·split at h
  ·rename_i Lq hLq;have hLs:∀q e,Ah Lq q=some e->Lq=[(q,e)]/\Ah L q=some e/\q<W.n0/\e.lt' W.n0=true/\e.isC=true/\W.vk.any (Nat.beq q)=true/\W.st.all (λp=> !(Nat.beq p.2 q)||BH W.ops p.1 i)=true:=by
    intro q e hq;unfold Am4 at hLq;split at hLq
    ·cases hLq;cases hq
    ·rename_i q' hq';split at hLq
     ·rename_i e' he';rw[Ew] at hLq;split at hLq
      ·rename_i hc;cases hLq;rw[As] at hq;split at hq
       ·rename_i e1;cases hq;subst e1;simp only[Ad,Gr] at hc;exact⟨I,he',hc.1.1,hc.1.2.1,hc.1.2.2,hc.2.1,hc.2.2⟩
       ·cases hq
      ·cases hLq
     ·cases hLq
   split at h
   ·rename_i u hu;split at h
    ·rename_i T' hp;exact key u Lq T' hLs (YT hu) hp h
    ·exact h.elim
   ·exact keyT Lq hLs h
  ·exact keyT [] (λq e hq=>by cases hq) h
theorem MI {j n0:Nat} {st:List (Nat×Nat)} {L L':LE}:∀ {vk:List Nat},GG j n0 st L L' vk->∀q,vk.any (Nat.beq q)=true->st.any (λp=>Nat.beq p.1 j&&Nat.beq p.2 q)=false->Ah L' q=Ah L q/\q<n0/\∃e,Ah L q=some e/\e.lt' n0=true/\e.isC=true
 |k::r,h,q,hq,hs=>by
  simp only[List.any_cons,Fw,Es] at hq;rcases hq with rfl|hq
  ·rcases h.1 with h1|h1
   ·rw[h1] at hs;cases hs
   ·exact h1
  ·exact MI h.2 q hq hs
theorem Sd.pos {ops:List Oper} {eff:List Nat}:∀ {s:Sd} {listed:Array Bool},Kg ops eff true s listed=true->∃m,s.len=m+1
 | .z,_,h=>by simp[Kg] at h
 | .op i r,_,h=>⟨_,I⟩
 | .alt l r,_,h=>by
  simp only[Kg,Ad] at h;exact Sd.pos (s:=l) h.1.1.2
theorem V6 (hsel:Region.noSelect W.ops.toArray=true) (hnd:W.ops.all Cw=true) (hN:X.N.length=W.n0) (hoff:TD W.T0 W.ops=true) {Q:Exit->Act->World->Prop} {K:KK} (hQ:Imp X K Q):
  ∀ {s:Sd} {listed:Array Bool} {T:TE} {L:LE} {n:Nat} {F:List Fact} {D:DF},dx X W s T L n F D K->∀a w,Rel X T L n F D a w->(∃A:Nat->Prop,∀f∈W.vf,f.h A w)->
  (Kg W.ops W.eff false s listed=true->Ka X.fe X.nn X.P .any W.ops.toArray (qNP X W.T0 K Q) (TrD X W) s.len listed a w)/\
  (Kg W.ops W.eff true s listed=true->∀i∈s.heads,wpOpIn X.fe X.nn X.P W.ops.toArray (qNP X W.T0 K Q) i (λa' w'=>TrD X W i w w'/\Ka X.fe X.nn X.P .any W.ops.toArray (qNP X W.T0 K Q) (TrD X W) (s.len- 1) (listed.setIfInBounds i true) a' w') a w)
 | .z,listed,T,L,n,F,D,h,a,w,hr,hV=>⟨λhs=>⟨by simpa [Kg] using hs,hQ _ _ _ _ _ _ h a w hr⟩,λhs=>by simp[Kg] at hs⟩
 | .alt l r,listed,T,L,n,F,D,h,a,w,hr,hV=>by
  have both:Kg W.ops W.eff true l listed=true->Kg W.ops W.eff true r listed=true->l.len=r.len->∀i∈(Sd.alt l r).heads,wpOpIn X.fe X.nn X.P W.ops.toArray (qNP X W.T0 K Q) i (λa' w'=>TrD X W i w w'/\Ka X.fe X.nn X.P .any W.ops.toArray (qNP X W.T0 K Q) (TrD X W) ((Sd.alt l r).len- 1) (listed.setIfInBounds i true) a' w') a w:=by
   intro h1 h2 h3 i hi;rcases B4.1 hi with hi|hi
   ·exact(V6 hsel hnd hN hoff hQ h.1 a w hr hV).2 h1 i hi
   ·have:=(V6 hsel hnd hN hoff hQ h.2 a w hr hV).2 h2 i hi;rw[<-h3] at this;exact this
  constructor
  ·intro hs;simp only[Kg,Ad,Tw] at hs;obtain⟨⟨⟨hs1,hs2⟩,hs3⟩,hs4⟩:=hs;have hs1:Region.ready .any W.ops.toArray listed=(Sd.alt l r).heads:=by simpa using hs1
   obtain⟨m,hm⟩:=Sd.pos hs2;have hb:=both hs2 hs3 (Bq hs4);simp only[Sd.len,hm,Xf] at hb⊢;refine⟨λh0=>?_,λj hj=>hb j (by rw[hs1] at hj;exact hj)⟩;rw[hs1] at h0;exfalso;have:∀ {s:Sd} {listed},Kg W.ops W.eff true s listed=true->s.heads≠ []:=by
    intro s;induction s with
    |z=>intro _ h;simp[Kg] at h
    |op i r=>intro _ _;simp[Sd.heads]
    |alt l r ihl _=>
     intro li h;simp only[Kg,Ad] at h;have:=ihl h.1.1.2;simp[Sd.heads,this]
   simp only[Sd.heads,List.append_eq_nil_iff] at h0;exact this hs2 h0.1
  ·intro hs;simp only[Kg,Ad,Bool.true_or,true_and] at hs;exact both hs.1.1 hs.1.2 (Bq hs.2)
 | .op i r,listed,T,L,n,F,D,h,a,w,hr,hV=>by
  unfold dx at h;split at h
  ·exact h.elim
  ·rename_i o ho;have ho':W.ops.toArray[i]? =some o:=by simpa using ho
   have hdef:Cw o=true:=A6.1 hnd o (Av ho);have effb:W.eff.contains i=W.eff.any (Nat.beq i):=by
    rw[Be];simp[Jr]
   have hs2:∀ {u},Kg W.ops W.eff u (.op i r) listed=true->Kg W.ops W.eff false r (listed.setIfInBounds i true)=true:=by
    intro u hs;simp only[Kg,Ad] at hs;exact hs.2
   have two:∀a w,(W.eff.any (Nat.beq i)=true->Kg W.ops W.eff false r (listed.setIfInBounds i true)=true->wpOpIn X.fe X.nn X.P W.ops.toArray (qNP X W.T0 K Q) i (λa' w'=>TrD X W i w w'/\Ka X.fe X.nn X.P .any W.ops.toArray (qNP X W.T0 K Q) (TrD X W) r.len (listed.setIfInBounds i true) a' w') a w)->
     (W.eff.any (Nat.beq i)=false->i∈Region.ready .any W.ops.toArray listed->Region.free .any W.ops.toArray listed i=true->Kg W.ops W.eff false r (listed.setIfInBounds i true)=true->Ka X.fe X.nn X.P .any W.ops.toArray (qNP X W.T0 K Q) (TrD X W) (r.len+1) listed a w)->
     (Kg W.ops W.eff false (.op i r) listed=true->Ka X.fe X.nn X.P .any W.ops.toArray (qNP X W.T0 K Q) (TrD X W) (Sd.op i r).len listed a w)/\
     (Kg W.ops W.eff true (.op i r) listed=true->∀j∈(Sd.op i r).heads,wpOpIn X.fe X.nn X.P W.ops.toArray (qNP X W.T0 K Q) j (λa' w'=>TrD X W j w w'/\Ka X.fe X.nn X.P .any W.ops.toArray (qNP X W.T0 K Q) (TrD X W) ((Sd.op i r).len- 1) (listed.setIfInBounds j true) a' w') a w):=by
    intro a w hE hN';constructor
    ·intro hs;have h2:=hs2 hs;simp only[Kg,Ad,Hu,Mu] at hs;cases he:W.eff.any (Nat.beq i) with
     |true=>
      have hs1:=hs.1;rw[Bi (by rw[effb];exact he)] at hs1;have hs1:Region.ready .any W.ops.toArray listed=[i]:=by simpa using hs1
      refine⟨λh0=>(by rw[hs1] at h0;cases h0),λj hj=>?_⟩;rw[hs1] at hj;simp only[Bc] at hj;subst hj;exact hE he h2
     |false=>
      have hs1:=hs.1;rw[Ar (by rw[effb,he];simp)] at hs1;have h4:i∈Region.ready .any W.ops.toArray listed/\Region.free .any W.ops.toArray listed i=true:=by simpa using hs1
      exact hN' he h4.1 h4.2 h2
    ·intro hs j hj;have h2:=hs2 hs;simp only[Kg,Ad,If] at hs;simp only[Sd.heads,Bc] at hj;subst hj;exact hE (by rw[<-effb];exact hs.1) h2
   have run:∀T,Rel X T L n F D a w->(o.guard=none\/∃j b,o.guard=some (j,b)/\Rp W.ops j T=some b)->
     (bif W.eff.any (Nat.beq i) then opK X o T L n F D (λT' L' n' F' D'=>(GG i W.n0 W.st L L' W.vk/\∀f∈W.vf,f∈F')/\dx X W r T' L' n' F' D' K) (Aa7 W.T0 K) else GC X W i o T L λT'=>dx X W r T' L n F D K)->
     (Kg W.ops W.eff false (.op i r) listed=true->Ka X.fe X.nn X.P .any W.ops.toArray (qNP X W.T0 K Q) (TrD X W) (Sd.op i r).len listed a w)/\
     (Kg W.ops W.eff true (.op i r) listed=true->∀j∈(Sd.op i r).heads,wpOpIn X.fe X.nn X.P W.ops.toArray (qNP X W.T0 K Q) j (λa' w'=>TrD X W j w w'/\Ka X.fe X.nn X.P .any W.ops.toArray (qNP X W.T0 K Q) (TrD X W) ((Sd.op i r).len- 1) (listed.setIfInBounds j true) a' w') a w):=by
    intro T hr hg h;refine two a w (λhe hs2=>?_) λhe h1 h2 hs2=>?_
    ·rw[he] at h;simp only[Ci] at h;obtain⟨A1,ρ1,h1⟩:=hr.one;have hw:Region.wanted o (yielded W.ops.toArray a.tmps)=true:=by
      rcases hg with hg|⟨j,b,hg,hj⟩
      ·exact Tt hg _
      ·rw[Ng hg (h1.guard hj)];simp
     unfold wpOpIn;simp only[ho',hw,If];refine EH h (qNP X W.T0 K Q) ?_ _ ?_ a w hr
     ·intro e T L n F D hK a w hr;cases e with
      |panic c=>exact⟨L,n,F,D,hK.2,hr.drop (KP hK.1)⟩
      |_=>exact hQ _ _ _ _ _ _ hK a w hr
     ·rintro T' L' n' F' D' ⟨⟨hv,hf⟩,hd⟩ a' w' hr';obtain⟨A2,ρ2,h2⟩:=hr'.one;have hV':∃A:Nat->Prop,∀f∈W.vf,f.h A w':=⟨A2,λf hf'=>h2.a3 f (hf f hf')⟩;refine⟨⟨hV',λq hq hst=>?_⟩,(V6 hsel hnd hN hoff hQ hd a' w' hr' hV').1 hs2⟩;obtain⟨e1,hq0,e,e2,hlt,hc⟩:=MI hv q hq hst;have g1:=Tm (λj hj=>h1.nm (by rw[hN];exact hj)) hlt hq0 (h1.lo q e e2);have g2:=Tm (λj hj=>h2.nm (by rw[hN];exact hj)) hlt hq0 (h2.lo q e (by rw[e1];exact e2));cases e with
      |c cs t=>exact g2.trans g1.symm
      |obj ob=>exact g2.trans g1.symm
      |dead=>cases hc
      |own=>cases hc
      |ob=>cases hc
    ·rw[he] at h;exact Ab1 hsel hnd hN hoff h1 h2 ho hg hr hV (λT' hk a hr'=>(V6 hsel hnd hN hoff hQ hk a w hr' hV).1 hs2) h
   have skipW:∀T,Rel X T L n F D a w->Region.wanted o (yielded W.ops.toArray a.tmps)=false->(match E7 X.k o.dst (.o (.v undef)) T with|some T'=>dx X W r T' L n F D K|none=>False)->
     (Kg W.ops W.eff false (.op i r) listed=true->Ka X.fe X.nn X.P .any W.ops.toArray (qNP X W.T0 K Q) (TrD X W) (Sd.op i r).len listed a w)/\
     (Kg W.ops W.eff true (.op i r) listed=true->∀j∈(Sd.op i r).heads,wpOpIn X.fe X.nn X.P W.ops.toArray (qNP X W.T0 K Q) j (λa' w'=>TrD X W j w w'/\Ka X.fe X.nn X.P .any W.ops.toArray (qNP X W.T0 K Q) (TrD X W) ((Sd.op i r).len- 1) (listed.setIfInBounds j true) a' w') a w):=by
    intro T hr hw h;split at h
    ·rename_i T' hp;have hnext:=λhs2=>(V6 (listed:=listed.setIfInBounds i true) hsel hnd hN hoff hQ h _ w (hr.put (v:=undef) (λ_ _ _=>I) hp) hV).1 hs2;refine two a w (λhe hs2=>?_) λhe h2 h3 hs2=>?_
     ·unfold wpOpIn;simp only[ho',hw,Hu,Mu];exact⟨λ_ _=>trivial,⟨hV,λ_ _ _=>I⟩,hnext hs2⟩
     ·exact FJ (S:=λw'=>∃A:Nat->Prop,∀f∈W.vf,f.h A w') (λ_=>trivial) (λj oj hj=>A6.1 hnd oj (Av (by simpa using hj))) ho' (Region.noSelect_spec hsel)
       (λc a w ⟨L',n',F',D',hK,hR⟩=>⟨L',n',F',D',hK,hR.unput λk hk=>OY hoff (Av ho) hk⟩) (λw' hS=>⟨hS,λ_ _ _=>I⟩) (λ_ _ _ _ _ _ _ hT _=>hT.1) r.len listed a w (Region.free_spec ho' h3) h2 ⟨hdef,.inr ⟨hw,I⟩⟩ hV (hnext hs2)
    ·exact h.elim
   have skip:∀T,Rel X T L n F D a w->∀j b c,o.guard=some (j,b)->Rp W.ops j T=some c->(c == b)=false->(match E7 X.k o.dst (.o (.v undef)) T with|some T'=>dx X W r T' L n F D K|none=>False)->
     (Kg W.ops W.eff false (.op i r) listed=true->Ka X.fe X.nn X.P .any W.ops.toArray (qNP X W.T0 K Q) (TrD X W) (Sd.op i r).len listed a w)/\
     (Kg W.ops W.eff true (.op i r) listed=true->∀j∈(Sd.op i r).heads,wpOpIn X.fe X.nn X.P W.ops.toArray (qNP X W.T0 K Q) j (λa' w'=>TrD X W j w w'/\Ka X.fe X.nn X.P .any W.ops.toArray (qNP X W.T0 K Q) (TrD X W) ((Sd.op i r).len- 1) (listed.setIfInBounds j true) a' w') a w):=by
    intro T hr j b c hg hj hc h;obtain⟨A1,ρ1,h1⟩:=hr.one;exact skipW T hr (by rw[Ng hg (h1.guard hj),hc]) h
   have dup:∀(d:Nat) (u:TV),Ah T d=some u->Rel X ((d,u)::T) L n F D a w:=λd u hd=>Ala hd hr;split at h
   ·rename_i hg;exact run T hr (.inl hg) h
   ·rename_i j b hg;split at h
    ·rename_i d hd;split at h
     ·rename_i xs hu;refine skipW T hr ?_ h;obtain⟨A1,ρ1,h1⟩:=hr.one;have hy:yielded W.ops.toArray a.tmps j=none:=by
       have h2:=h1.tm d _ hu;unfold yielded;rw[Ic,hd];rw[Bp] at h2;cases hx:a.tmps[d]? with
       |none=>simp[hx]
       |some y=>rw[hx] at h2;simp at h2;simp[hx,h2,TV.den,SV.den]
      simp[Region.wanted,hg,hy]
     ·rename_i c hc;have gd:∀e:Bool,Rp W.ops j ((d,.o (.v (.bool e)))::T)=some e:=λe=>by
       unfold Rp;rw[hd];simp only[Gs]
      cases b<;>cases c
      ·exact run _ (dup _ _ hc) (.inr ⟨j,false,hg,gd false⟩) h
      ·exact skip _ (dup _ _ hc) j false true hg (gd true) I h
      ·exact skip _ (dup _ _ hc) j true false hg (gd false) I h
      ·exact run _ (dup _ _ hc) (.inr ⟨j,true,hg,gd true⟩) h
     ·exact h.elim
    ·exact h.elim
end
section
variable {X:Fx} {T:TE} {L:LE} {n:Nat} {F:List Fact} {D:DF} {K:KK}
theorem Ao {id:Nat} {ops:Array Oper} (eff:List Nat) (sch:Sd) (vk:List Nat) (st:List (Nat×Nat)) (keep:List Nat) (vf:List Fact) (h:∀N:List Nat,dx {X with N:=N} ⟨ops.toList,eff,vk,st,vf,n,AG keep T⟩ sch T L n F D K) (hoff:TD (AG keep T) ops.toList=true:=by exact I) (hm:X.P.follows .mixedOrders=true:=by exact tqK) (hB:ZN ops.toList eff sch=true:=by exact tqK) (hXN:X.N.length<=n:=by exact tqS) (hvf:∀f∈vf,f∈F:=by exact tqS):CJs X (.region id ops true) T L n F D K:=by
 intro Q hQ a w hr;simp only[ZN,Ad] at hB;obtain⟨⟨⟨hB1,hB2⟩,hB3⟩,hB4⟩:=hB;have hlen:sch.len=ops.size:=by simpa using Bq hB4
 obtain⟨hkb,ρ0,A,h0⟩:=hr;obtain⟨N,hN⟩:∃N,N=(List.range n).map ρ0:=⟨_,I⟩;have hNl:N.length=n:=by rw[hN];simp
 have hN0:∀i b,N[i]? =some b->i<n/\ρ0 i=b:=by
  intro i b hib;rw[hN] at hib;simp only[Cq,Dn] at hib;obtain⟨j,hj,rfl⟩:=hib;obtain⟨h1,h2⟩:=Aa.1 hj;simp at h1 h2;subst h2;exact⟨h1,I⟩
 have hrel:Rel {X with N:=N} T L n F D a {w with drawn:=w.drawn+1}:=by
  refine⟨hkb,ρ0,A,λρ hρ=>?_⟩;have h1:=h0 ρ hρ;exact⟨⟨h1.tm,λk e hk=>LC.keep (w:=w) (h1.lo k e hk) λb _=>I,λf hf=>f.ok (w:=w) (λ_ h=>h) (λb _=>I) ⟨I,I,I,Ak _⟩ (h1.a3 f hf)⟩,h1.sz,h1.df,⟨h1.kp.os,h1.kp.tape,h1.kp.output,h1.kp.size,h1.kp.keep⟩,h1.nw,h1.ds,h1.a1,h1.a2,
   λi b hib=>by obtain⟨h2,h3⟩:=hN0 i b hib;rw[hρ i h2,h3]⟩
 have himp:Imp {X with N:=N} K Q:=by
  intro e T L n' F D hK a w hr';refine hQ e T L n' F D hK a w ?_;obtain⟨hkb',ρ1,A',h1⟩:=hr';refine⟨hkb',ρ1,A',λρ hρ=>?_⟩;have h2:=h1 ρ hρ;refine⟨⟨h2.tm,h2.lo,h2.a3⟩,h2.sz,h2.df,h2.kp,h2.nw,h2.ds,h2.a1,h2.a2,λi b hib=>?_⟩;have hi:=(Aa.1 hib).1;have h3:=(h0 ρ0 λ_ _=>I).mb i b hib;have h4:N[i]? =some (ρ0 i):=by
   rw[hN,Cq,Q1 (Aw hi hXN)];rfl
  rw[h2.mb i _ h4,h3]
 have key:=(V6 (X:= {X with N:=N}) (W:=⟨ops.toList,eff,vk,st,vf,n,AG keep T⟩) (by simpa using hB2) hB3 hNl hoff himp (h N) a _ hrel ⟨A,λf hf=>f.ok (w:=w) (λ_ h=>h) (λb _=>I) ⟨I,I,I,Ak _⟩ ((h0 ρ0 λ_ _=>I).a3 f (hvf f hf))⟩).1 hB1;rw[hlen,M8,Kj] at key;refine wpIn_region_any hm (S0 (Q:=qNP {X with N:=N} (AG keep T) K Q) (λe a w hq=>?_) _ _ _ _ (FI _ _ _ _ key));cases e with
 |panic c=>
  obtain⟨L',n',F',D',hK,hR⟩:=hq;exact himp _ _ _ _ _ _ hK a w hR
 |_=>exact hq
end
theorem YZ {t e:TypeId} {i:TypeInfo} {z:Value} {size bytes:Nat} (ht:P.underlying t=some (.slice e)) (hi:P.info? e=some i) (hz:i.zero=some z) (hsize:i.size=size) (hby:i.bytes=bytes) (hzs:z.cells.size=size) (hsz:0<size)
  (hown:w.ownsRow 0 e size v n xs) {ad:Addr} {m c:Nat} {news:List Value} (hl:news.length=m*size) (hnews:∀j u,news[j]? =some u->w.cell? (ad.add j)=some u) (h1:∀u∈news,u.oneCell'=true)
  (h63:n+m<=maxLen) (hbytes:(n+m)*bytes<=140737488355328) {v':Value} (hr:(Builtin.append_ #[t,t] ty #[v,.slice (some ad) m c]).run P w=.ok v' w'):∀g,v'.ownBlock=some g->v.ownBlock=some g\/w.heap.size<=g:=by
 intro g' hg';rcases hown.2 with ⟨rfl,rfl⟩|⟨g,cap,cur,rfl,hbg,hg,hnc,hcm,hcs,htake⟩
 ·have hx:xs=[]:=E0 (by simpa using hown.1);subst hx;obtain⟨v2,w2,hr2,ho2,_⟩:=run_append_own (P:=P) w w.heap.size t ty e i z size bytes ht hi hz hsize hby hzs hsz _ 0 [] (Kc w w.heap.size e size) ad m c news hl hnews h1 h63 hbytes (Ak _);rw[hr] at hr2;injection hr2 with e1 e2
  subst e1;rcases ho2.2 with ⟨rfl,_⟩|⟨g2,cap2,cur2,rfl,hb2,_⟩
  ·simp[Value.ownBlock] at hg'
  ·simp only[Value.ownBlock,B7] at hg'
   right;omega
 ·subst hsize;subst hby;by_cases hroom:n+m<=cap
  ·have hfit:n*i.size+news.length<=cur.size:=by rw[hl,hcs,<-Fl];exact D0 _ hroom
   have hr2:=run_append_room (P:=P) w t ty e i ht hi g n cap cur hg ad m c news hl hnews h1 hroom hfit;rw[hr] at hr2;injection hr2 with e1 e2
   subst e1;exact .inl hg'
  ·have holds:∀j u,xs[j]? =some u->w.cell? ((⟨g,0,none⟩:Addr).add j)=some u:=hown.cells (g:=g) I;have hsmall:n+m<=9223372036854775807:=by simp only[maxLen] at h63;omega
   have hr2:=run_append_grow (P:=P) w t ty e i z ht hi hz ⟨g,0,none⟩ n cap xs hown.1 holds ad m c news hl hnews tqO tqO (Sk tqO hbytes);rw[hr] at hr2;injection hr2 with e1 e2
   subst e1;simp only[Value.ownBlock,B7] at hg'
   right;omega
theorem EK {base:Nat} {e:TypeId} {size:Nat} (h:w.ownsRow base e size v n xs):∃a c,v=.slice a n c:=by
 rcases h.2 with ⟨rfl,rfl⟩|⟨g,cap,cur,rfl,_⟩
 ·exact⟨_,_,I⟩
 ·exact⟨_,_,I⟩
section
variable {X:Fx} {ops l:List Oper} {o:Oper} {T:TE} {L:LE} {n:Nat} {F:List Fact} {D:DF} {K:KK} {k:KS} {c:Code}
variable {e:TypeId} {m' sz:Nat}
theorem Rel.own {a:Act} {w w':World} {j:Nat} {v v':Value} {m:Nat} {xs xs':List Value} (h:Rel X T L n F D a w) (hj:Ah L j=some (.own v e sz m xs)) (hown:w'.ownsRow 0 e sz v' m' xs') (hg:w.grownBy w' v.ownBlock)
  (far:∀g,v'.ownBlock=some g->v.ownBlock=some g\/w.heap.size<=g):Rel X T ((j,.own v' e sz m' xs')::L) n F D a w':=by
 obtain⟨hkb,ρ0,A,h0⟩:=h;refine⟨λk e hk=>?_,ρ0,A,λρ hρ=>?_⟩
 ·rw[As] at hk;split at hk
  ·rename_i ek;rw[ek];exact hkb _ _ hj
  ·exact hkb _ _ hk
 have h1:=h0 ρ hρ;have old:∀b,b<w.heap.size->v.ownBlock≠some b->w'.heap[b]? =w.heap[b]?:=λb hb hn=>hg.block b hb λe=>hn e.symm;have bl:∀k e' b,Ah ((j,LC.own v' e sz m' xs')::L) k=some e'->e'.blk ρ k=some b->(k=j/\v'.ownBlock=some b)\/(k≠j/\Ah L k=some e'/\b<w.heap.size/\v.ownBlock≠some b):=by
  intro k e' b hk hb;rw[As] at hk;split at hk
  ·rename_i ek;cases hk;exact .inl ⟨ek,hb⟩
  ·rename_i ek;exact .inr ⟨ek,hk,LC.lt (h1.lo k e' hk) hb,λhv=>ek (h1.ds k j e' _ b hk hj hb hv)⟩
 have Ab:∀b,A b->v.ownBlock≠some b:=λb hb=>(h1.a2 b hb).2 j _ hj;refine⟨⟨h1.tm,?_,λf hf=>f.ok (w:=w) (λ_ h=>h) (λb hb=>old b (h1.a2 b hb).1 (Ab b hb)) ⟨hg.os,hg.tape,hg.output,hg.size⟩ (h1.a3 f hf)⟩,h1.sz,h1.df,?_,?_,?_,h1.a1,?_,h1.mb⟩
 ·intro k e' hk;have hk0:=hk;rw[As] at hk;split at hk
  ·cases hk;exact hown
  ·rename_i ek;refine LC.keep (w:=w) (h1.lo k e' hk) λb hb=>?_;rcases bl k e' b hk0 hb with ⟨e1,_⟩|⟨_,_,h3,h4⟩
   ·exact absurd e1 ek
   ·exact old b h3 h4
 ·refine⟨hg.os.trans h1.kp.os,hg.tape.trans h1.kp.tape,hg.output.trans h1.kp.output,Bf h1.kp.size hg.size,λb hb hm=>?_⟩;rw[old b (Aw hb h1.kp.size) λhv=>?_]
  ·exact h1.kp.keep b hb hm
  ·rcases h1.nw j _ b hj hv with h2|h2
   ·exact hm h2
   ·omega
 ·intro k e' b hk hb;rcases bl k e' b hk hb with ⟨_,hv⟩|⟨_,h2,_,_⟩
  ·rcases far b hv with h3|h3
   ·exact h1.nw j _ b hj h3
   ·exact .inr (Bf h1.kp.size h3)
  ·exact h1.nw k e' b h2 hb
 ·intro k1 k2 f1 f2 b hk1 hk2 hb1 hb2;rcases bl k1 f1 b hk1 hb1 with ⟨e1,hv1⟩|⟨_,h2,h3,h4⟩<;>rcases bl k2 f2 b hk2 hb2 with ⟨e2,hv2⟩|⟨_,h2',h3',h4'⟩
  ·rw[e1,e2]
  ·rcases far b hv1 with h5|h5
   ·exact absurd h5 h4'
   ·omega
  ·rcases far b hv2 with h5|h5
   ·exact absurd h5 h4
   ·omega
  ·exact h1.ds k1 k2 f1 f2 b h2 h2' hb1 hb2
 ·intro b hb;refine⟨Aw (h1.a2 b hb).1 hg.size,λk e' hk hbk=>?_⟩;rcases bl k e' b hk hbk with ⟨_,hv⟩|⟨_,h2,_,_⟩
  ·rcases far b hv with h3|h3
   ·exact Ab b hb h3
   ·have:=(h1.a2 b hb).1;omega
  ·exact(h1.a2 b hb).2 k e' h2 hbk
theorem MM (e:TypeId) (sz:Nat):Wk X T L n F D ⟨T,(n,.own (.slice none 0 0) e sz 0 [])::L,n+1,F,D⟩:=by
 rintro a w ⟨hkb,ρ0,A,h0⟩;show Rel X T ((n,.own (.slice none 0 0) e sz 0 [])::L) (n+1) F D a w
 have bl:∀(ρ:Nm) k e' b,Ah ((n,LC.own (.slice none 0 0) e sz 0 [])::L) k=some e'->e'.blk ρ k=some b->Ah L k=some e':=by
  intro ρ k e' b hk hb;rw[As] at hk;split at hk
  ·cases hk;simp[LC.blk,Value.ownBlock] at hb
  ·exact hk
 refine⟨λk e' hk=>?_,ρ0,A,λρ hρ=>?_⟩
 ·rw[As] at hk;split at hk
  ·omega
  ·have:=hkb k e' hk;omega
 have h1:=h0 ρ λj hj=>hρ j tqO;refine⟨⟨h1.tm,λk e' hk=>?_,h1.a3⟩,h1.sz,h1.df,h1.kp,λk e' b hk hb=>h1.nw k e' b (bl ρ k e' b hk hb) hb,λk1 k2 f1 f2 b hk1 hk2 hb1 hb2=>h1.ds k1 k2 f1 f2 b (bl ρ k1 f1 b hk1 hb1) (bl ρ k2 f2 b hk2 hb2) hb1 hb2,h1.a1,
  λb hb=>⟨(h1.a2 b hb).1,λk e' hk hbk=>(h1.a2 b hb).2 k e' (bl ρ k e' b hk hbk) hbk⟩,h1.mb⟩
 rw[As] at hk;split at hk
 ·cases hk;exact Kc _ _ _ _
 ·exact h1.lo k e' hk
def QU (L:LE):Nat->Bool
 |0=>true
 |i+1=>(match Ah L i with|some (.c _ _)=>true|_=>false)&&QU L i
theorem SZ {L:LE}:∀ {m i:Nat},QU L m=true->i<m->∃cs t,Ah L i=some (.c cs t)
 |m+1,i,h,hi=>by
  simp only[QU,Ad] at h;by_cases e:i=m
  ·subst e;have h1:=h.1;split at h1
   ·rename_i cs t hk;exact⟨cs,t,hk⟩
   ·cases h1
  ·exact SZ h.2 tqO
theorem D8 {α:Type} {enc:α->List Value} {xs:List α} {j:Nat} {v:Value} {m:Nat} (hM:X.M=[]\/(X.M=X.N/\QU L X.N.length=true)) (henc:∀x,(enc x).length=sz) (hm:m=xs.length) (hj:Ah L j=some (.own v e sz m (xs.flatMap enc))):Wk X T L n F D ⟨T,(j,.dead)::L,n,slF enc sz v xs::F,D⟩:=by
 subst hm;rintro a w ⟨hkb,ρ0,A,h0⟩;have hb0:=h0 ρ0 λ_ _=>I;have hown:w.ownsRow 0 e sz v xs.length (xs.flatMap enc):=hb0.lo j _ hj;have bl:∀(ρ:Nm) k e' b,Ah ((j,LC.dead)::L) k=some e'->e'.blk ρ k=some b->k≠j/\Ah L k=some e':=by
  intro ρ k e' b hk hb;rw[As] at hk;split at hk
  ·cases hk;simp[LC.blk] at hb
  ·rename_i ek;exact⟨ek,hk⟩
 refine⟨λk e' hk=>?_,ρ0,λb=>A b\/v.ownBlock=some b,λρ hρ=>?_⟩
 ·rw[As] at hk;split at hk
  ·rename_i ek;rw[ek];exact hkb _ _ hj
  ·exact hkb k e' hk
 have h1:=h0 ρ hρ;refine⟨⟨h1.tm,λk e' hk=>?_,λf hf=>?_⟩,h1.sz,h1.df,h1.kp,λk e' b hk hb=>h1.nw k e' b (bl ρ k e' b hk hb).2 hb,λk1 k2 f1 f2 b hk1 hk2 hb1 hb2=>h1.ds k1 k2 f1 f2 b (bl ρ k1 f1 b hk1 hb1).2 (bl ρ k2 f2 b hk2 hb2).2 hb1 hb2,?_,?_,h1.mb⟩
 ·rw[As] at hk;split at hk
  ·cases hk;trivial
  ·exact h1.lo k e' hk
 ·rcases Ap.1 hf with rfl|hf
  ·have hS:=Sl.of_owns henc hown;obtain⟨a',cap,e1,e2,h3⟩:=hS;refine⟨a',cap,e1,e2,h3.imp id ?_⟩;rintro ⟨b,off,h4,_,h6⟩;exact⟨b,off,h4,.inr (by rw[e1,h4];rfl),h6⟩
  ·exact f.ok (w:=w) (λ_ h=>.inl h) (λ_ _=>I) (Grow.refl _) (h1.a3 f hf)
 ·rintro b (hb|hb)
  ·exact h1.a1 b hb
  ·rcases h1.nw j _ b hj hb with h2|h2
   ·exfalso;rcases hM with hM|⟨hM,hC⟩
    ·rw[hM] at h2;cases h2
    ·rw[hM] at h2;obtain⟨i,hi⟩:=B6.1 h2;obtain⟨cs,t,hk⟩:=SZ hC (Aa.1 hi).1;have:=h1.ds i j _ _ b hk hj (by simp only[LC.blk];rw[h1.mb i b hi]) hb;subst this;rw[hk] at hj;cases hj
   ·exact .inr h2
 ·rintro b (hb|hb)
  ·exact⟨(h1.a2 b hb).1,λk e' hk hbk=>(h1.a2 b hb).2 k e' (bl ρ k e' b hk hbk).2 hbk⟩
  ·refine⟨LC.lt (h1.lo j _ hj) hb,λk e' hk hbk=>?_⟩;obtain⟨h2,h3⟩:=bl ρ k e' b hk hbk;exact h2 (h1.ds k j e' _ b h3 hj hbk hb)
variable {src:Operand}
theorem Dq {cl:Call} {s:Operand} {t:TypeId} {by_ m:Nat} {zs:List Nat} {v:Value} {xs news:List Value} {d:Nat} (j:Nat) (hj:Ah L j=some (.own v e sz m xs)) (ho:o.op=.call cl) (hcl:cl.callee=.builtin .append) (hargs:cl.args.toList=[s,src]) (htys:cl.argTypes.toList=[t,t])
  (hs:evS T s=some (.o (.v v))) (hel:Ah X.tab.el t=some (e,sz)) (hze:Ah X.tab.ze e=some zs) (hzl:zs.length=sz) (hsz:0<sz) (hby:Ah X.tab.by_ e=some by_) (hdst:o.dst=some d) (hd:Nat.blt d X.k=true)
  (hsrc:∀A ρ a w,Vw T L F A ρ a w->(∀b,A b->b<w.heap.size)->(∃ad c,a.eval src=.slice (some ad) m' c/\∀j u,news[j]? =some u->w.cell? (ad.add j)=some u)\/(a.eval src=.slice none 0 0/\m'=0/\news=[])) (hl:news.length=m'*sz) (h1:∀u∈news,u.oneCell'=true) (hcap:(m+m')*by_<=140737488355328) (h63:m+m'<=maxLen)
  (h:∀a' c',k ((d,.o (.v (.slice a' (m+m') c')))::T) ((j,.own (.slice a' (m+m') c') e sz (m+m') (xs++news))::L) n F D):OJs X o T L n F D k K:=by
 intro Q hQ Φ hΦ a w hr;obtain⟨A,ρ,h0⟩:=hr.one;refine Oper.wpIn_of_run (by simp[Cw,ho]) ?_;obtain⟨ht,i,hi,his⟩:=Jg (X.ok.el _ _ hel);obtain⟨i',z,hi',hz1,hz2⟩:=Ts (X.ok.ze _ _ hze);simp only at ht hi his;rw[hi] at hi';cases hi';have hyb:i.bytes=by_:=by
  have:=X.ok.by_ _ _ hby;unfold tyY at this;rw[hi] at this;simpa using this
 have hzs:z.cells.size=sz:=by rw[hz2 ρ];simp[C4,Nz,hzl]
 have ha1:cl.args= #[s,src]:=Cn hargs;have ha2:cl.argTypes= #[t,t]:=Cn htys;have hv:a.eval s=v:=h0.ev hs;have hown:w.ownsRow 0 e sz v m xs:=h0.lo j _ hj;have fin:∀v' w',(Builtin.append_ #[t,t] o.type #[v,a.eval src]).run X.P w=.ok v' w'->w'.ownsRow 0 e sz v' (m+m') (xs++news)->w.grownBy w' v.ownBlock->(∀g,v'.ownBlock=some g->v.ownBlock=some g\/w.heap.size<=g)->
   o.uponIn X.fe X.nn X.P a Φ Q ((execOp a.eval o).run X.P w):=by
  intro v' w' hrun ho' hg far;obtain⟨a',c',rfl⟩:=EK ho';have e1:(execOp a.eval o).run X.P w=.ok (.value (.slice a' (m+m') c')) w':=by
   simp only[execOp,ho,resolve,hcl,ha1,ha2,L8,Bj,E4,hv,Ba,Bh,An,invoke,builtin,hrun]
  rw[e1];refine hΦ _ _ _ _ _ (h a' c') _ w' ?_;have:=hr.own hj ho' hg far;have hp:E7 X.k o.dst (.o (.v (.slice a' (m+m') c'))) T=some ((d,.o (.v (.slice a' (m+m') c')))::T):=by simp[E7,hdst,hd]
  exact this.put (λ_ _ _=>I) hp
 rcases hsrc A ρ a w h0.toVw (λb hb=>(h0.a2 b hb).1) with ⟨ad,c',hsv,hnews⟩|⟨hsv,rfl,rfl⟩
 ·obtain⟨v',w',hr1,hr2,hr3,_⟩:=run_append_own (P:=X.P) w 0 t o.type e i z sz by_ ht hi hz1 his hyb hzs hsz v m xs hown ad m' c' news hl hnews h1 h63 hcap (Ax _);exact fin v' w' (by rw[hsv];exact hr1) hr2 hr3 (YZ ht hi hz1 his hyb hzs hsz hown hl hnews h1 h63 hcap hr1)
 ·refine fin v w (by rw[hsv];exact run_append_owned_none w 0 t o.type e i sz ht hi v m xs hown) (by simpa using hown) ⟨I,I,I,Ak _,λ_ _ _=>I⟩ λg hg=>.inl hg
theorem Uq {q:Nat} {news:List Value} (hsrc:evS T src=some (.o (.s q 0 m' m'))) (hq:Ah L q=some (.c (news.map SV.v) e)):∀A ρ a w,Vw T L F A ρ a w->(∀b,A b->b<w.heap.size)->(∃ad c,a.eval src=.slice (some ad) m' c/\∀j u,news[j]? =some u->w.cell? (ad.add j)=some u)\/(a.eval src=.slice none 0 0/\m'=0/\news=[]):=by
 intro A ρ a w h0 _;refine .inl ⟨⟨ρ q,0,none⟩,m',h0.ev hsrc,λj u hu=>?_⟩;have h1:=h0.lo q _ hq;simp only[LC.holds,Ji] at h1;rw[H5,Iu h1];simpa using hu
theorem Qg {α:Type} {enc:α->List Value} {ao:Option Addr} {c':Nat} {ys:List α} (hsrc:evS T src=some (.o (.v (.slice ao m' c')))) (hf:slF enc sz (.slice ao m' c') ys∈F) (henc:∀x,(enc x).length=sz):
  ∀A ρ a w,Vw T L F A ρ a w->(∀b,A b->b<w.heap.size)->(∃ad c,a.eval src=.slice (some ad) m' c/\∀j u,(ys.flatMap enc)[j]? =some u->w.cell? (ad.add j)=some u)\/(a.eval src=.slice none 0 0/\m'=0/\ys.flatMap enc=[]):=by
 intro A ρ a w h0 hA;have hS:=Qp (h0.a3 _ hf) hA;cases ao with
 |none=>
  obtain⟨rfl,rfl⟩:=hS.nil_cap;have:=hS.nil_of_none;subst this;exact .inr ⟨h0.ev hsrc,I,I⟩
 |some ad=>exact .inl ⟨ad,c',h0.ev hsrc,hS.news henc⟩
end
end Go.Proofs.YtjofafbkkpdgbaaGreat
