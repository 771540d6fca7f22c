/- A part of the proof of LockOpens: rules and contracts. No condition. -/
import Derived.Test.YtjofafbkkpdgbaaGreatPnae
set_option maxRecDepth 100000
set_option maxHeartbeats 4000000
set_option linter.all false
namespace Go.Proofs.YtjofafbkkpdgbaaGreat.Ck
open Go Go.RowKit Go.Shelf
structure GI where
 b:Nat
 d:Nat:=0
 N:Nat:=0
 sz:Nat:=0
 xt:Nat:=0
abbrev Gh:=Nat->GI
def ext (G:Gh) (a:Addr) (c:Nat):Nat:=if a.spot.isSome||decide (a.off+c*(G a.block).sz<(G a.block).N) then 0 else(G a.block).xt
def dA (G:Gh) (a:Addr):Addr:=⟨(G a.block).b,a.off+(G a.block).d,none⟩
def dF (G:Gh):Fn->Fn
 | .yield l=>.yield (G l).b
 |f=>f
mutual
def den (G:Gh):Value->Value
 | .pointer (some a)=>.pointer (some (dA G a))
 | .slice (some a) l c=>.slice (some (dA G a)) l (c+ext G a c)
 | .map (some r)=>.map (some (G r).b)
 | .func fn ⟨f⟩ ⟨c⟩=>.func (dF G fn) ⟨C4 G f⟩ ⟨C4 G c⟩
 | .iface t v=>.iface t (den G v)
 | .agg ⟨cs⟩=>.agg ⟨C4 G cs⟩
 | .tuple ⟨vs⟩=>.tuple ⟨C4 G vs⟩
 |v=>v
def C4 (G:Gh):List Value->List Value
 | []=>[]
 |v::vs=>den G v::C4 G vs
end
theorem O5 (G:Gh):∀vs,C4 G vs=vs.map (den G)
 | []=>rfl
 |v::vs=>by rw[C4,O5 G vs];rfl
theorem Qt (G:Gh) (cs:List Value):den G (.agg ⟨cs⟩)=.agg ⟨cs.map (den G)⟩:=by rw[den,O5]
theorem Rn (G:Gh) (cs:List Value):den G (.tuple ⟨cs⟩)=.tuple ⟨cs.map (den G)⟩:=by rw[den,O5]
theorem Ma (G:Gh) (fn:Fn) (f c:List Value):den G (.func fn ⟨f⟩ ⟨c⟩)=.func (dF G fn) ⟨f.map (den G)⟩ ⟨c.map (den G)⟩:=by rw[den,O5,O5]
@[simp] theorem Qu (G:Gh) (k:IntKind) (n:Int):den G (.int k n)=.int k n:=I
@[simp] theorem RR (G:Gh) (b:Bool):den G (.bool b)=.bool b:=I
@[simp] theorem ZM (G:Gh) (s:ByteArray):den G (.string s)=.string s:=I
@[simp] theorem Z4 (G:Gh):den G undef=undef:=by rw[undef,Rn];rfl
theorem Uu (G:Gh) (v:Value):(den G v).cells.toList=v.cells.toList.map (den G):=by
 cases v with
 |agg cs=>obtain⟨cs⟩:=cs;rw[Qt];rfl
 |pointer a=>cases a<;>rfl
 |slice a l c=>cases a<;>rfl
 |map r=>cases r<;>rfl
 |func fn f c=>obtain⟨f⟩:=f;obtain⟨c⟩:=c;rfl
 |tuple vs=>obtain⟨vs⟩:=vs;rfl
 |_=>rfl
mutual
theorem den_plain (G:Gh):∀v:Value,plainV v=true->den G v=v
 | .pointer none,_=>rfl
 | .pointer (some _),h=>by simp[plainV] at h
 | .slice none _ _,_=>rfl
 | .slice (some _) _ _,h=>by simp[plainV] at h
 | .map none,_=>rfl
 | .map (some _),h=>by simp[plainV] at h
 | .func (.yield _) _ _,h=>by simp[plainV] at h
 | .func (.func g) ⟨f⟩ ⟨c⟩,h=>by
  simp only[plainV,Ad] at h;rw[den,J4 G f h.1,J4 G c h.2];rfl
 | .func (.method g) ⟨f⟩ ⟨c⟩,h=>by
  simp only[plainV,Ad] at h;rw[den,J4 G f h.1,J4 G c h.2];rfl
 | .func (.methodOf t g) ⟨f⟩ ⟨c⟩,h=>by
  simp only[plainV,Ad] at h;rw[den,J4 G f h.1,J4 G c h.2];rfl
 | .func (.via t p g b) ⟨f⟩ ⟨c⟩,h=>by
  simp only[plainV,Ad] at h;rw[den,J4 G f h.1,J4 G c h.2];rfl
 | .iface t v,h=>by rw[den,den_plain G v (by simpa [plainV] using h)]
 | .agg ⟨cs⟩,h=>by rw[den,J4 G cs (by simpa [plainV] using h)]
 | .tuple ⟨vs⟩,h=>by rw[den,J4 G vs (by simpa [plainV] using h)]
 | .bool _,_=>rfl
 | .int _ _,_=>rfl
 | .float _ _,_=>rfl
 | .complex _ _ _,_=>rfl
 | .string _,_=>rfl
 | .chan _,_=>rfl
 | .nilFunc,_=>rfl
 | .nilIface,_=>rfl
theorem J4 (G:Gh):∀vs:List Value,Vr vs=true->C4 G vs=vs
 | [],_=>rfl
 |v::vs,h=>by
  simp only[Vr,Ad] at h;rw[C4,den_plain G v h.1,J4 G vs h.2]
end
section
variable {α β:Type}
@[simp] theorem Tr.get_lf (k:Nat):(Tr.lf:Tr α).get k=none:=rfl
theorem Tr.get_nd (x:Option α) (a b c d:Tr α) (k:Nat):(Tr.nd x a b c d).get k=match k with
  |0=>x
  |j+1=>if j % 4=0 then a.get (j / 4) else if j % 4=1 then b.get (j / 4) else if j % 4=2 then c.get (j / 4) else d.get (j / 4):=by
 cases k with
 |zero=>rfl
 |succ j=>
  show Nat.rec (motive:=λ_=>Option α) (a.get (j / 4)) (λi _=>Nat.rec (motive:=λ_=>Option α) (b.get (j / 4)) (λi _=>Nat.rec (motive:=λ_=>Option α) (c.get (j / 4)) (λ_ _=>d.get (j / 4)) i) i) (j % 4)=_
  have:j % 4=0\/j % 4=1\/j % 4=2\/j % 4=3:=by omega
  rcases this with h|h|h|h<;>simp only[h]<;>rfl
theorem Tr.put1_spec (z:β) (v:α):∀(f k:Nat) (K:Tr α->β),Tr.put1 z v f k K=z\/∃t,Tr.put1 z v f k K=K t/\∀j,t.get j=if j=k then some v else none
 |0,_,_=>.inl I
 |f+1,0,K=>.inr ⟨.nd (some v) .lf .lf .lf .lf,I,λj=>by
  rw[Tr.get_nd];cases j<;>simp⟩
 |f+1,k+1,K=>by
  have e:Tr.put1 z v (f+1) (k+1) K=Nat.rec (motive:=λ_=>β) (Tr.put1 z v f (k / 4) λt=>K (.nd none t .lf .lf .lf)) (λi _=>Nat.rec (motive:=λ_=>β) (Tr.put1 z v f (k / 4) λt=>K (.nd none .lf t .lf .lf)) (λi _=>Nat.rec (motive:=λ_=>β) (Tr.put1 z v f (k / 4) λt=>K (.nd none .lf .lf t .lf)) (λ_ _=>Tr.put1 z v f (k / 4) λt=>K (.nd none .lf .lf .lf t)) i) i) (k % 4):=rfl;have h:k % 4=0\/k % 4=1\/k % 4=2\/k % 4=3:=by omega
  have fin:∀(m:Tr α->Tr α),(∀t j,(∀j,t.get j=if j=k / 4 then some v else none)->(m t).get j=if j=k+1 then some v else none)->(Tr.put1 z v f (k / 4) λt=>K (m t))=z\/∃t,(Tr.put1 z v f (k / 4) λt=>K (m t))=K t/\∀j,t.get j=if j=k+1 then some v else none:=λm hm=>by
   rcases Tr.put1_spec z v f (k / 4) (λt=>K (m t)) with h1|⟨t,h1,h2⟩
   ·exact .inl h1
   ·exact .inr ⟨_,h1,λj=>hm t j h2⟩
  rcases h with h|h|h|h<;>rw[e,h]
  all_goals
   refine fin _ λt j h2=>?_;rw[Tr.get_nd];cases j with
   |zero=>simp
   |succ j=>
    simp only[h2,Tr.get_lf];repeat' split
    all_goals first|rfl|omega
theorem Tr.put_spec (z:β) (v:α):∀(t:Tr α) (k:Nat) (K:Tr α->β),Tr.put z v t k K=z\/∃t',Tr.put z v t k K=K t'/\∀j,t'.get j=if j=k then some v else t.get j
 | .lf,k,K=>Tr.put1_spec z v 40 k K
 | .nd x a b c d,0,K=>.inr ⟨.nd (some v) a b c d,I,λj=>by
  rw[Tr.get_nd,Tr.get_nd];cases j<;>simp⟩
 | .nd x a b c d,k+1,K=>by
  have e:Tr.put z v (.nd x a b c d) (k+1) K=Nat.rec (motive:=λ_=>β) (Tr.put z v a (k / 4) λt=>K (.nd x t b c d)) (λi _=>Nat.rec (motive:=λ_=>β) (Tr.put z v b (k / 4) λt=>K (.nd x a t c d)) (λi _=>Nat.rec (motive:=λ_=>β) (Tr.put z v c (k / 4) λt=>K (.nd x a b t d)) (λ_ _=>Tr.put z v d (k / 4) λt=>K (.nd x a b c t)) i) i) (k % 4):=rfl;have h:k % 4=0\/k % 4=1\/k % 4=2\/k % 4=3:=by omega
  have fin:∀(s:Tr α) (m:Tr α->Tr α),((Tr.put z v s (k / 4) λt=>K (m t))=z\/∃t',(Tr.put z v s (k / 4) λt=>K (m t))=K (m t')/\∀j,t'.get j=if j=k / 4 then some v else s.get j)->(∀t j,(∀j,t.get j=if j=k / 4 then some v else s.get j)->(m t).get j=if j=k+1 then some v else(Tr.nd x a b c d).get j)->(Tr.put z v s (k / 4) λt=>K (m t))=z\/∃t,(Tr.put z v s (k / 4) λt=>K (m t))=K t/\∀j,t.get j=if j=k+1 then some v else(Tr.nd x a b c d).get j:=λs m hs hm=>by
   rcases hs with h1|⟨t,h1,h2⟩
   ·exact .inl h1
   ·exact .inr ⟨_,h1,λj=>hm t j h2⟩
  rcases h with h|h|h|h<;>rw[e,h]
  ·refine fin a (λt=>.nd x t b c d) (Tr.put_spec z v a (k / 4) _) λt j h2=>?_;rw[Tr.get_nd,Tr.get_nd];cases j with
   |zero=>simp
   |succ j=>
    simp only[h2];repeat' split
    all_goals first|rfl|omega
  ·refine fin b (λt=>.nd x a t c d) (Tr.put_spec z v b (k / 4) _) λt j h2=>?_;rw[Tr.get_nd,Tr.get_nd];cases j with
   |zero=>simp
   |succ j=>
    simp only[h2];repeat' split
    all_goals first|rfl|omega
  ·refine fin c (λt=>.nd x a b t d) (Tr.put_spec z v c (k / 4) _) λt j h2=>?_;rw[Tr.get_nd,Tr.get_nd];cases j with
   |zero=>simp
   |succ j=>
    simp only[h2];repeat' split
    all_goals first|rfl|omega
  ·refine fin d (λt=>.nd x a b c t) (Tr.put_spec z v d (k / 4) _) λt j h2=>?_;rw[Tr.get_nd,Tr.get_nd];cases j with
   |zero=>simp
   |succ j=>
    simp only[h2];repeat' split
    all_goals first|rfl|omega
theorem Aj0 (t:Tr α):∀(f k:Nat),(IJ f k).f t=t.get k:=by
 intro f;induction f generalizing t with
 |zero=>exact λk=>I
 |succ f ih=>
  intro k;cases k with
  |zero=>cases t<;>rfl
  |succ j=>
   have e:IJ (α:=α) (f+1) (j+1)=Nat.rec (motive:=λ_=>W (Tr α->Option α)) ⟨λt=>Tr.casesOn t none λ_ a _ _ _=>(IJ f (j / 4)).f a⟩ (λi _=>Nat.rec (motive:=λ_=>W (Tr α->Option α)) ⟨λt=>Tr.casesOn t none λ_ _ b _ _=>(IJ f (j / 4)).f b⟩
    (λi _=>Nat.rec (motive:=λ_=>W (Tr α->Option α)) ⟨λt=>Tr.casesOn t none λ_ _ _ c _=>(IJ f (j / 4)).f c⟩ (λ_ _=>⟨λt=>Tr.casesOn t none λ_ _ _ _ d=>(IJ f (j / 4)).f d⟩) i) i) (j % 4):=I
   have h:j % 4=0\/j % 4=1\/j % 4=2\/j % 4=3:=by omega
   cases t with
   |lf=>rcases h with h|h|h|h<;>rw[e,h]<;>rfl
   |nd x a b c d=>
    rw[Tr.get_nd];rcases h with h|h|h|h<;>rw[e,h]
    ·exact(ih a (j / 4)).trans (by simp[h])
    ·exact(ih b (j / 4)).trans (by simp[h])
    ·exact(ih c (j / 4)).trans (by simp[h])
    ·exact(ih d (j / 4)).trans (by simp[h])
theorem PJ (z:β) (v:α):∀(f k:Nat) (t:Tr α) (K:Tr α->β),(E7 z f k).f v t K=z\/∃t',(E7 z f k).f v t K=K t'/\∀j,t'.get j=if j=k then some v else t.get j:=by
 intro f;induction f with
 |zero=>exact λk t K=>Tr.put_spec z v t k K
 |succ f ih=>
  intro k t K;cases k with
  |zero=>
   cases t with
   |lf=>exact .inr ⟨.nd (some v) .lf .lf .lf .lf,I,λj=>by rw[Tr.get_nd];cases j<;>simp⟩
   |nd x a b c d=>exact .inr ⟨.nd (some v) a b c d,I,λj=>by rw[Tr.get_nd,Tr.get_nd];cases j<;>simp⟩
  |succ k=>
   have h:k % 4=0\/k % 4=1\/k % 4=2\/k % 4=3:=by omega
   have e:E7 (α:=α) z (f+1) (k+1)=Nat.rec (motive:=λ_=>W (α->Tr α->(Tr α->β)->β))
    ⟨λv t K=>Tr.casesOn t ((E7 z f (k / 4)).f v .lf λt=>K (.nd none t .lf .lf .lf)) λx a b c d=>(E7 z f (k / 4)).f v a λt=>K (.nd x t b c d)⟩ (λi _=>Nat.rec (motive:=λ_=>W (α->Tr α->(Tr α->β)->β))
    ⟨λv t K=>Tr.casesOn t ((E7 z f (k / 4)).f v .lf λt=>K (.nd none .lf t .lf .lf)) λx a b c d=>(E7 z f (k / 4)).f v b λt=>K (.nd x a t c d)⟩ (λi _=>Nat.rec (motive:=λ_=>W (α->Tr α->(Tr α->β)->β))
    ⟨λv t K=>Tr.casesOn t ((E7 z f (k / 4)).f v .lf λt=>K (.nd none .lf .lf t .lf)) λx a b c d=>(E7 z f (k / 4)).f v c λt=>K (.nd x a b t d)⟩ (λ_ _=>
    ⟨λv t K=>Tr.casesOn t ((E7 z f (k / 4)).f v .lf λt=>K (.nd none .lf .lf .lf t)) λx a b c d=>(E7 z f (k / 4)).f v d λt=>K (.nd x a b c t)⟩) i) i) (k % 4):=I
   have fin:∀(s t0:Tr α) (m:Tr α->Tr α),(∀t j,(∀j,t.get j=if j=k / 4 then some v else s.get j)->(m t).get j=if j=k+1 then some v else t0.get j)->((E7 z f (k / 4)).f v s λt=>K (m t))=z\/∃t,((E7 z f (k / 4)).f v s λt=>K (m t))=K t/\∀j,t.get j=if j=k+1 then some v else t0.get j:=λs t0 m hm=>by
    rcases ih (k / 4) s (λt=>K (m t)) with h1|⟨t,h1,h2⟩
    ·exact .inl h1
    ·exact .inr ⟨_,h1,λj=>hm t j h2⟩
   cases t with
   |lf=>
    rcases h with h|h|h|h<;>rw[e,h]
    all_goals
     refine fin .lf .lf _ λt j h2=>?_;rw[Tr.get_nd];cases j with
     |zero=>simp
     |succ j=>
      simp only[h2,Tr.get_lf];repeat' split
      all_goals first|rfl|omega
   |nd x a b c d=>
    rcases h with h|h|h|h<;>rw[e,h]
    ·refine fin a _ (λt=>.nd x t b c d) λt j h2=>?_;rw[Tr.get_nd,Tr.get_nd];cases j with
     |zero=>simp
     |succ j=>
      simp only[h2];repeat' split
      all_goals first|rfl|omega
    ·refine fin b _ (λt=>.nd x a t c d) λt j h2=>?_;rw[Tr.get_nd,Tr.get_nd];cases j with
     |zero=>simp
     |succ j=>
      simp only[h2];repeat' split
      all_goals first|rfl|omega
    ·refine fin c _ (λt=>.nd x a b t d) λt j h2=>?_;rw[Tr.get_nd,Tr.get_nd];cases j with
     |zero=>simp
     |succ j=>
      simp only[h2];repeat' split
      all_goals first|rfl|omega
    ·refine fin d _ (λt=>.nd x a b c t) λt j h2=>?_;rw[Tr.get_nd,Tr.get_nd];cases j with
     |zero=>simp
     |succ j=>
      simp only[h2];repeat' split
      all_goals first|rfl|omega
end
def RQ (G:Gh):Target->Target
 | .fn fn c=>.fn (dF G fn) ⟨c.toList.map (den G)⟩
 | .collected r=>.collected (G r).b
 |t=>t
def Ve (G:Gh) (d:Deferred):Deferred:= {target:=RQ G d.target,args:=⟨d.args.toList.map (den G)⟩}
def Pn (G:Gh) (e:MapEntry):MapEntry:= {key:=den G e.key,val:=den G e.val,born:=e.born}
def Lb:Bk->Bool
 | .d=>false
 |_=>true
def TR (G:Gh) (T:Tr Value) (m:Nat) (tm:Array Value):Prop:=tm.size=m/\∀t,tm.getD t undef=den G ((T.get t).getD undef)
def HY (g:GI) (l p j op:Nat):Prop:=(op=0->p=0/\j=0/\g.xt=0)/\(op≠0->g.sz=op/\g.N=l/\j=g.xt*op)/\g.d=p
def BR (G:Gh) (k:Nat) (w:World):Bk->Prop
 | .c cs t op=>∃pr jk:List Value,w.heap[(G k).b]? =some (.cells ⟨pr++cs.map (den G)++jk⟩ t (0,0))/\HY (G k) cs.length pr.length jk.length op
 | .o (.map es n)=>w.heap[(G k).b]? =some (.map ⟨es.toList.map (Pn G)⟩ n)
 | .o (.deferred (some ds))=>w.heap[(G k).b]? =some (.deferred (some (ds.map (Ve G))))
 | .o _=>False
 | .lp st T m ps pre body _ df jump=>∃(tm:Array Value) (f0:FuncId),w.heap[(G k).b]? =some (.loop {state:=st,pending:=jump,fn:=f0,tmps:=tm,params:=ps.toArray,assign:=pre,body:=body,defers:=(G df).b})/\TR G T m tm
 | .d=>True
structure HR (G:Gh) (h:Tr Bk) (w:World):Prop where
 bk:∀k b,h.get k=some b->Lb b=true->BR G k w b
 inj:∀k k' b b',h.get k=some b->h.get k'=some b'->Lb b=true->Lb b'=true->(G k).b=(G k').b->k=k'
def Ag (al:Nat->Prop) (G G':Gh):Prop:=∀k,al k->G' k=G k
variable {G:Gh} {al:Nat->Prop}
theorem Ag.rfl:Ag al G G:=λ_ _=>Eq.refl _
theorem Ag.mono {al':Nat->Prop} {G1 G':Gh} (h:Ag al' G1 G') (h1:∀k,al k->al' k/\G1 k=G k):Ag al G G':=λk hk=>(h k (h1 k hk).1).trans (h1 k hk).2
structure HS (al:Nat->Prop) (G0:Gh) (H:CH) (w:World):Prop where
 lt:∀k,al k->k<H.n
 pr:∀k b,H.h.get k=some b->al k
 hr:∀G,Ag al G0 G->HR G H.h w
def FS (al:Nat->Prop) (G0:Gh) (F:Fr) (a:Act):Prop:=∀G,Ag al G0 G->TR G F.T F.m a.tmps/\a.defers=F.D.map (Ve G)
def Img (H:CH) (G:Gh) (b:Nat):Prop:=∃k x,H.h.get k=some x/\Lb x=true/\(G k).b=b
structure To (al:Nat->Prop) (G:Gh) (H:CH) (w:World) (al':Nat->Prop) (G':Gh) (H':CH) (w':World):Prop where
 n:H.n<=H'.n
 up:∀k,al k->al' k/\G' k=G k
 back:∀k,k<H.n->al' k->al k
 os:w'.os=w.os
 tape:w'.tape=w.tape
 output:w'.output=w.output
 size:w.heap.size<=w'.heap.size
 keep:∀b,b<w.heap.size->¬Img H G b->w'.heap[b]? =w.heap[b]?
 own:∀b,b<w.heap.size->Img H' G' b->Img H G b
variable {H:CH}
theorem To.rfl {w:World}:To al G H w al G H w:=⟨Ak _,λ_ h=>⟨h,Eq.refl _⟩,λ_ _ h=>h,Eq.refl _,Eq.refl _,Eq.refl _,Ak _,λ_ _ _=>Eq.refl _,λ_ _ h=>h⟩
theorem To.trans {al1 al2:Nat->Prop} {G1 G2:Gh} {H1 H2:CH} {w w1 w2:World} (h:To al G H w al1 G1 H1 w1) (h':To al1 G1 H1 w1 al2 G2 H2 w2):To al G H w al2 G2 H2 w2 where
 n:=Bf h.n h'.n
 up k hk:=⟨(h'.up k (h.up k hk).1).1,(h'.up k (h.up k hk).1).2.trans (h.up k hk).2⟩
 back k hk hk':=h.back k hk (h'.back k (Aw hk h.n) hk')
 os:=h'.os.trans h.os
 tape:=h'.tape.trans h.tape
 output:=h'.output.trans h.output
 size:=Bf h.size h'.size
 keep b hb hi:=(h'.keep b (Aw hb h.size) λhc=>hi (h.own b hb hc)).trans (h.keep b hb hi)
 own b hb hi:=h.own b hb (h'.own b (Aw hb h.size) hi)
variable {w':World}
theorem FS.to {al':Nat->Prop} {G':Gh} {H':CH} {w:World} {F:Fr} {a:Act} (h:FS al G F a) (ht:To al G H w al' G' H' w'):FS al' G' F a:=λG1 h1=>h G1 (h1.mono ht.up)
variable {b:Bk} {k:Nat}
theorem BR.lt {w:World} (h:BR G k w b) (hl:Lb b=true):(G k).b<w.heap.size:=by
 have key:∀ {o:Obj},w.heap[(G k).b]? =some o->(G k).b<w.heap.size:=λh=>by
  rcases Pj (G k).b w.heap.size with h'|h'
  ·exact h'
  ·rw[Tf h'] at h;cases h
 cases b with
 |c cs t op=>obtain⟨_,_,h,_⟩:=h;exact key h
 |o x=>
  cases x with
  |map es n=>exact key h
  |deferred ds=>
   cases ds with
   |some ds=>exact key h
   |none=>exact absurd h (by simp[BR])
  |_=>exact absurd h (by simp[BR])
 |lp=>obtain⟨_,_,h,_⟩:=h;exact key h
 |d=>cases hl
theorem BR.keep {w:World} (h:BR G k w b) (hw:w'.heap[(G k).b]? =w.heap[(G k).b]?):BR G k w' b:=by
 cases b with
 |c cs t op=>obtain⟨pr,jk,h1,h2⟩:=h;exact⟨pr,jk,hw.trans h1,h2⟩
 |o x=>
  cases x with
  |map es n=>exact hw.trans h
  |deferred ds=>
   cases ds with
   |some ds=>exact hw.trans h
   |none=>exact absurd h (by simp[BR])
  |_=>exact absurd h (by simp[BR])
 |lp=>obtain⟨tm,f0,h1,h2⟩:=h;exact⟨tm,f0,hw.trans h1,h2⟩
 |d=>trivial
theorem Yv (T:Tr Value) (t:Tmp):evT T (.tmp t)=(T.get t).getD undef:=by
 have:∀x:Option Value,(Option.casesOn (motive:=λ_=>Value) x undef λv=>v)=x.getD undef:=λx=>by cases x<;>rfl
 exact(Fb (λo:Option Value=>(Option.casesOn (motive:=λ_=>Value) o undef λv=>v)) (Aj0 T 40 t)).trans (this (T.get t))
theorem Cz {T:Tr Value} {m:Nat} {a:Act} (h:TR G T m a.tmps) {x:Operand} (hx:C3 x=true):a.eval x=den G (evT T x):=by
 cases x with
 |tmp t=>rw[Yv];exact h.2 t
 |const v=>exact(den_plain G v hx).symm
 |global g=>cases hx
 |func f=>show Value.func (.func f) #[] #[]=den G (.func (.func f) ⟨[]⟩ ⟨[]⟩);rw[Ma];rfl
variable {v:Value}
theorem TR.put {T T':Tr Value} {m d:Nat} {tm:Array Value} (h:TR G T m tm) (hT:∀j,T'.get j=if j=d then some v else T.get j) (hd:d<m):TR G T' m (tm.setIfInBounds d (den G v)):=by
 refine⟨by rw[Array.size_setIfInBounds];exact h.1,λt=>?_⟩;rw[hT];by_cases e:t=d
 ·subst e;have:t<tm.size:=by rw[h.1];exact hd
  simp[Bp,this]
 ·rw[Ar e,<-h.2 t];simp[Bp,Dz (Ut e)]
theorem Uw {β:Type} {z:β} {d:Option Nat} {F:Fr} {K:Fr->β}:Iv z d v F K=z\/∃F',Iv z d v F K=K F'/\F'.m=F.m/\F'.D=F.D/\F'.q=F.q/\∀(G:Gh) (a:Act),TR G F.T F.m a.tmps->TR G F'.T F'.m (a.put d (den G v)).tmps:=by
 unfold Iv;obtain⟨T0,m,D,q⟩:=F;cases d with
 |none=>exact .inr ⟨_,Eq.refl _,Eq.refl _,Eq.refl _,Eq.refl _,λ_ _ h=>h⟩
 |some d=>
  dsimp only;split
  ·rename_i hd;rcases PJ z v 40 d T0 (λT=>K ⟨T,m,D,q⟩) with h|⟨T,h,hT⟩
   ·exact .inl h
   ·exact .inr ⟨_,h,Eq.refl _,Eq.refl _,Eq.refl _,λG a ht=>TR.put ht hT (by simpa [Gr] using hd)⟩
  ·exact .inl (Eq.refl _)
theorem FS.put {G0:Gh} {F F':Fr} {a:Act} {d:Option Nat} {u:Value} (h:FS al G0 F a) (hv:∀G,Ag al G0 G->u=den G v) (hD:F'.D=F.D) (hT:∀(G:Gh) (a:Act),TR G F.T F.m a.tmps->TR G F'.T F'.m (a.put d (den G v)).tmps):FS al G0 F' (a.put d u):=by
 intro G hG;obtain⟨h1,h2⟩:=h G hG;refine⟨by rw[hv G hG];exact hT G a h1,?_⟩;rw[hD,<-h2];cases d<;>rfl
theorem HS.write {G0:Gh} {w:World} {b':Bk} {h':Tr Bk} (hs:HS al G0 H w) (hk:H.h.get k=some b) (hl:Lb b=true) (hh:∀j,h'.get j=if j=k then some b' else H.h.get j)
  (hw:∀G,Ag al G0 G->Lb b'=true->BR G k w' b') (ho:∀j,j≠(G0 k).b->w'.heap[j]? =w.heap[j]?) (hsz:w'.heap.size=w.heap.size) (h1:w'.os=w.os) (h2:w'.tape=w.tape) (h3:w'.output=w.output):
  HS al G0 ⟨h',H.n⟩ w'/\To al G0 H w al G0 ⟨h',H.n⟩ w':=by
 have hak:=hs.pr k b hk;refine⟨⟨hs.lt,λj c hj=>?_,λG hG=>⟨λj c hj hc=>?_,λi j c c' hi hj hc hc' e=>?_⟩⟩,⟨Ak _,λ_ h=>⟨h,Eq.refl _⟩,λ_ _ h=>h,h1,h2,h3,Fy hsz.symm,λj hj hi=>ho j λe=>hi ⟨k,b,hk,hl,e.symm⟩,?_⟩⟩
 ·rw[hh] at hj;split at hj
  ·rename_i e;rw[e];exact hak
  ·exact hs.pr j c hj
 ·rw[hh] at hj;split at hj
  ·rename_i e;subst e;cases hj;exact hw G hG hc
  ·rename_i e;have hb:=(hs.hr G hG).bk j c hj hc;refine hb.keep (ho _ λe'=>e ?_);rw[<-hG k hak] at e';exact(hs.hr G hG).inj j k c b hj hk hc hl e'
 ·rw[hh] at hi hj;split at hi<;>split at hj
  ·rename_i e1 e2;rw[e1,e2]
  ·rename_i e1 e2;subst e1;cases hi;exact(hs.hr G hG).inj i j b c' hk hj hl hc' e
  ·rename_i e1 e2;subst e2;cases hj;exact(hs.hr G hG).inj i j c b hi hk hc hl e
  ·exact(hs.hr G hG).inj i j c c' hi hj hc hc' e
 ·rintro j hj ⟨i,c,hi,hc,e⟩;rw[hh] at hi;split at hi
  ·rename_i e1;subst e1;exact⟨i,b,hk,hl,e⟩
  ·exact⟨i,c,hi,hc,e⟩
theorem HS.write2 {G0:Gh} {w:World} {b':Bk} {h':Tr Bk} (hs:HS al G0 H w) (hk:H.h.get k=some b) (hl:Lb b=true) (hh:∀j,h'.get j=if j=k then some b' else H.h.get j)
  (hw:∀G,Ag al G0 G->Lb b'=true->BR G k w' b') (ho:∀j,j<w.heap.size->j≠(G0 k).b->w'.heap[j]? =w.heap[j]?) (hsz:w.heap.size<=w'.heap.size) (h1:w'.os=w.os) (h2:w'.tape=w.tape) (h3:w'.output=w.output):
  HS al G0 ⟨h',H.n⟩ w'/\To al G0 H w al G0 ⟨h',H.n⟩ w':=by
 have hak:=hs.pr k b hk;refine⟨⟨hs.lt,λj c hj=>?_,λG hG=>⟨λj c hj hc=>?_,λi j c c' hi hj hc hc' e=>?_⟩⟩,⟨Ak _,λ_ h=>⟨h,Eq.refl _⟩,λ_ _ h=>h,h1,h2,h3,hsz,λj hj hi=>ho j hj λe=>hi ⟨k,b,hk,hl,e.symm⟩,?_⟩⟩
 ·rw[hh] at hj;split at hj
  ·rename_i e;rw[e];exact hak
  ·exact hs.pr j c hj
 ·rw[hh] at hj;split at hj
  ·rename_i e;subst e;cases hj;exact hw G hG hc
  ·rename_i e;have hb:=(hs.hr G hG).bk j c hj hc;refine hb.keep (ho _ (hb.lt hc) λe'=>e ?_);rw[<-hG k hak] at e';exact(hs.hr G hG).inj j k c b hj hk hc hl e'
 ·rw[hh] at hi hj;split at hi<;>split at hj
  ·rename_i e1 e2;rw[e1,e2]
  ·rename_i e1 e2;subst e1;cases hi;exact(hs.hr G hG).inj i j b c' hk hj hl hc' e
  ·rename_i e1 e2;subst e2;cases hj;exact(hs.hr G hG).inj i j c b hi hk hc hl e
  ·exact(hs.hr G hG).inj i j c c' hi hj hc hc' e
 ·rintro j hj ⟨i,c,hi,hc,e⟩;rw[hh] at hi;split at hi
  ·rename_i e1;subst e1;exact⟨i,b,hk,hl,e⟩
  ·exact⟨i,c,hi,hc,e⟩
theorem HS.alloc {G0:Gh} {w:World} {h':Tr Bk} (g:GI) (hs:HS al G0 H w) (hh:∀j,h'.get j=if j=H.n then some b else H.h.get j)
  (hw:∀G,Ag al G0 G->G H.n=g->Lb b=true->BR G H.n w' b) (hold:∀j,j<w.heap.size->w'.heap[j]? =w.heap[j]?) (hnew:Lb b=true->w.heap.size<=g.b) (hsz:w.heap.size<=w'.heap.size) (h1:w'.os=w.os) (h2:w'.tape=w.tape) (h3:w'.output=w.output):
  HS (λk=>al k\/k=H.n) (λk=>if k=H.n then g else G0 k) ⟨h',H.n+1⟩ w'/\To al G0 H w (λk=>al k\/k=H.n) (λk=>if k=H.n then g else G0 k) ⟨h',H.n+1⟩ w':=by
 have hne:∀k,al k->k≠H.n:=λk hk=>Km (hs.lt k hk);have hA:∀k,al k->(al k\/k=H.n)/\(if k=H.n then g else G0 k)=G0 k:=λk hk=>⟨.inl hk,Ar (hne k hk)⟩;have old:∀G,Ag al G0 G->∀j c,H.h.get j=some c->Lb c=true->(G j).b<w.heap.size:=λG hG j c hj hc=>((hs.hr G hG).bk j c hj hc).lt hc;refine⟨⟨λk hk=>?_,λj c hj=>?_,λG hG=>?_⟩,⟨Nat.le_succ _,hA,λk hk h=>h.resolve_right (Km hk),h1,h2,h3,hsz,λj hj _=>hold j hj,?_⟩⟩
 ·rcases hk with hk|rfl
  ·exact Nat.lt_succ_of_lt (hs.lt k hk)
  ·exact Nl _
 ·rw[hh] at hj;split at hj
  ·exact .inr (by assumption)
  ·exact .inl (hs.pr j c hj)
 ·have hG':Ag al G0 G:=hG.mono hA;have hn:G H.n=g:=(hG H.n (.inr (Eq.refl _))).trans (Bi (Eq.refl _));refine⟨λj c hj hc=>?_,λi j c c' hi hj hc hc' e=>?_⟩
  ·rw[hh] at hj;split at hj
   ·rename_i e;subst e;cases hj;exact hw G hG' hn hc
   ·exact((hs.hr G hG').bk j c hj hc).keep (hold _ (old G hG' j c hj hc))
  ·rw[hh] at hi hj;split at hi<;>split at hj
   ·rename_i e1 e2;rw[e1,e2]
   ·rename_i e1 e2;subst e1;cases hi;have:=old G hG' j c' hj hc';have:=hnew hc;rw[hn] at e;omega
   ·rename_i e1 e2;subst e2;cases hj;have:=old G hG' i c hi hc;have:=hnew hc';rw[hn] at e;omega
   ·exact(hs.hr G hG').inj i j c c' hi hj hc hc' e
 ·rintro j hj ⟨i,c,hi,hc,e⟩;rw[hh] at hi;split at hi
  ·rename_i e1;subst e1;cases hi;dsimp only at e;rw[Bi (Eq.refl _)] at e;have:=hnew hc;omega
  ·rename_i e1;dsimp only at e;rw[Ar e1] at e;exact⟨i,c,hi,hc,e⟩
def Re (P:Program) (o:Oper) (a:Act) (w:World) (v:Value) (w':World):Prop:=(execOp a.eval o).run P w=.ok (.value v) w'\/((execOp a.eval o).run P w=.ok .skip w'/\v=undef)
def TS (al:Nat->Prop) (G0:Gh) (T:Tr Value) (m:Nat) (a:Act):Prop:=∀G,Ag al G0 G->TR G T m a.tmps
def OpS (P:Program) (T:Tr Value) (m:Nat) (o:Oper) (H:CH) (v:Value) (H':CH):Prop:=
 ∀al G0 a w,TS al G0 T m a->HS al G0 H w->∃al' G0' w',To al G0 H w al' G0' H' w'/\HS al' G0' H' w'/\∃u,Re P o a w u w'/\∀G,Ag al' G0' G->u=den G v
section
variable {P:Program} {T:Tr Value} {m:Nat} {o:Oper} {H:CH}
theorem Re.det {a:Act} {w w1 w2:World} {u1 u2:Value} (h1:Re P o a w u1 w1) (h2:Re P o a w u2 w2):u1=u2/\w1=w2:=by
 rcases h1 with h1|⟨h1,rfl⟩<;>rcases h2 with h2|⟨h2,rfl⟩<;>rw[h1] at h2
 ·injection h2 with h3 h4
  injection h3 with h3
  exact⟨h3,h4⟩
 ·injection h2 with h3 h4
  cases h3
 ·injection h2 with h3 h4
  cases h3
 ·injection h2 with h3 h4
  exact⟨I,h4⟩
def OpP (P:Program) (T:Tr Value) (m:Nat) (o:Oper) (H:CH) (v:Value):Prop:=∀(G:Gh) (a:Act) (w:World),TR G T m a.tmps->HR G H.h w->Re P o a w (den G v) w
variable {v:Value}
theorem OpP.mk (h:∀(G:Gh) (a:Act) (w:World),TR G T m a.tmps->HR G H.h w->(execOp a.eval o).run P w=.ok (.value (den G v)) w):OpP P T m o H v:=λG a w ht hr=>.inl (h G a w ht hr)
theorem OpP.s (h:OpP P T m o H v):OpS P T m o H v H:=by
 intro al G0 a w ht hs;have h0:=h G0 a w (ht G0 .rfl) (hs.hr G0 .rfl);exact⟨al,G0,w,.rfl,hs,den G0 v,h0,λG hG=>(h0.det (h G a w (ht G hG) (hs.hr G hG))).1⟩
def isQ:Op->Bool
 | .move _| .assign _| .pick .. | .build .. | .makeInterface .. | .load .. | .nilCheck _| .binOp .. | .unOp .. | .convert .. | .makeFunc .. | .slice .. | .fieldAddr .. | .field .. | .indexAddr .. | .index .. | .lookup .. | .extract .. =>true
 | .call c=>match c.callee with
  | .builtin b=>match b with
   | .len| .cap| .min| .max=>true
   |_=>false
  |_=>false
 |_=>false
def OpD (P:Program) (T:Tr Value) (m:Nat) (o:Oper) (H:CH) (v:Value):Prop:=∀(G0:Gh) (a:Act) (w:World),TR G0 T m a.tmps->HR G0 H.h w->∃(g:GI) (u:Value),Re P o a w u w/\∀G:Gh,G H.n=g->u=den G v
def OpW (P:Program) (T:Tr Value) (m:Nat) (o:Oper) (H:CH) (v:Value) (H':CH):Prop:=OpS P T m o H v H'/\(isQ o.op=true->H'.n=H.n->OpP P T m o H v)/\(isQ o.op=true->H'.n≠H.n->OpD P T m o H v)
theorem OpP.w (h:OpP P T m o H v):OpW P T m o H v H:=⟨h.s,λ_ _=>h,λ_ h=>absurd I h⟩
theorem OpS.w {H':CH} (h:OpS P T m o H v H') (hq:isQ o.op=false):OpW P T m o H v H':=by
 refine⟨h,λh1 _=>?_,λh1 _=>?_⟩<;>(rw[h1] at hq;cases hq)
end
section
variable {β:Type} {z:β}
theorem JF:∀(cs:List Value) (n:Nat) (K:List Value->β),tk1 z cs n K=z\/(tk1 z cs n K=K (cs.take n)/\n<=cs.length)
 |_,0,K=>.inr ⟨by
   rename_i cs;cases cs<;>rfl,Ax _⟩
 | [],n+1,K=>.inl I
 |x::xs,n+1,K=>by
  rcases JF xs n (λvs=>K (x::vs)) with h|⟨h,h2⟩
  ·exact .inl h
  ·exact .inr ⟨h,by simpa using h2⟩
theorem Yp (n:Nat):∀(o:Nat) (cs:List Value) (K:List Value->β),AO z cs o n K=z\/(AO z cs o n K=K ((cs.drop o).take n)/\o+n<=cs.length\/n=0/\AO z cs o n K=K ((cs.drop o).take n))
 |o,[],K=>by
  rcases JF (z:=z) [] n K with h|⟨h,h2⟩
  ·exact .inl h
  ·refine .inr (.inr ⟨Nat.le_zero.1 h2,?_⟩);rw[List.drop_nil];exact h
 |0,x::xs,K=>by
  rcases JF (z:=z) (x::xs) n K with h|⟨h,h2⟩
  ·exact .inl h
  ·exact .inr (.inl ⟨h,by simpa using h2⟩)
 |o+1,x::xs,K=>by
  rcases Yp n o xs K with h|⟨h,h2⟩|⟨h2,h⟩
  ·exact .inl h
  ·exact .inr (.inl ⟨h,by simp;omega⟩)
  ·exact .inr (.inr ⟨h2,h⟩)
theorem NE:∀(cs:List Value) (o:Nat),ND cs o=cs[o]?
 | [],o=>by simp;rfl
 |x::xs,0=>rfl
 |x::xs,o+1=>by
  have:ND (x::xs) (o+1)=ND xs o:=rfl;rw[this,NE xs o];simp
def J7 (cs:List Value) (k:Nat) (vs:List Value):List Value:=cs.take k++vs++cs.drop (k+vs.length)
theorem Zt {cs:List Value} {k:Nat} {vs:List Value} (h:k+vs.length<=cs.length):(J7 cs k vs).length=cs.length:=by
 simp[J7];omega
theorem Wm (f:Value->Value) (cs:List Value) (k:Nat) (vs:List Value):(J7 cs k vs).map f=J7 (cs.map f) k (vs.map f):=by
 simp[J7,Ir,Ko]
theorem CY (pr cs jk vs:List Value) (k:Nat) (h:k+vs.length<=cs.length):J7 (pr++cs++jk) (k+pr.length) vs=pr++J7 cs k vs++jk:=by
 unfold J7;rw[Cp pr cs jk,Nk k,List.take_length_add_append,Ty,Pt,C0 tqO,Lt h];simp
theorem JM:∀(vs cs:List Value) (K:List Value->β),wrK z vs cs K=z\/(wrK z vs cs K=K (vs++cs.drop vs.length)/\vs.length<=cs.length/\∀v∈vs,v.oneCell'=true)
 | [],cs,K=>.inr ⟨by simp;rfl,Ax _,λ_ h=>nomatch h⟩
 |v::vs,[],K=>.inl (by
  show (match v.oneCell',([]:List Value) with
   |true,_::cs=>wrK z vs cs λcs=>K (v::cs)
   |_,_=>z)=z
  split<;>first|rfl|(rename_i h;cases h))
 |v::vs,c::cs,K=>by
  have e:wrK z (v::vs) (c::cs) K=match v.oneCell',c::cs with
   |true,_::cs=>wrK z vs cs λcs=>K (v::cs)
   |_,_=>z:=rfl
  rw[e];cases hv:v.oneCell' with
  |false=>exact .inl I
  |true=>
   rcases JM vs cs (λcs=>K (v::cs)) with h|⟨h,h2,h3⟩
   ·exact .inl h
   ·refine .inr ⟨h,by simpa using h2,λu hu=>?_⟩;rcases Ap.1 hu with rfl|hu
    ·exact hv
    ·exact h3 u hu
theorem Qd (vs:List Value):∀(cs:List Value) (k:Nat) (K:List Value->β),Sv z vs cs k K=z\/(Sv z vs cs k K=K (J7 cs k vs)/\(vs=[]\/k+vs.length<=cs.length)/\∀v∈vs,v.oneCell'=true)
 | [],k,K=>by
  rcases JM (z:=z) vs [] K with h|⟨h,h2,h3⟩
  ·exact .inl h
  ·have:vs=[]:=E0 (Nat.le_zero.1 h2);refine .inr ⟨?_,.inl this,h3⟩;subst this;have e:Sv z [] [] k K=K []:=h;rw[e];simp[J7]
 |x::xs,0,K=>by
  rcases JM (z:=z) vs (x::xs) K with h|⟨h,h2,h3⟩
  ·exact .inl h
  ·refine .inr ⟨?_,.inr (by simpa using h2),h3⟩;have e:Sv z vs (x::xs) 0 K=K (vs++(x::xs).drop vs.length):=h;rw[e];simp[J7]
 |x::xs,k+1,K=>by
  rcases Qd vs xs k (λys=>K (x::ys)) with h|⟨h,h2,h3⟩
  ·exact .inl h
  ·refine .inr ⟨?_,h2.imp id λh=>by simp;omega,h3⟩;have e:Sv z vs (x::xs) (k+1) K=K (x::J7 xs k vs):=h;rw[e];simp[J7,show k+1+vs.length=(k+vs.length)+1 by omega]
theorem W8 (G:Gh) (v:Value):(den G v).oneCell'=v.oneCell':=by
 cases v with
 |pointer a=>cases a<;>rfl
 |slice a l c=>cases a<;>rfl
 |map r=>cases r<;>rfl
 |func fn f c=>obtain⟨f⟩:=f;obtain⟨c⟩:=c;rfl
 |tuple vs=>obtain⟨vs⟩:=vs;rfl
 |agg vs=>obtain⟨vs⟩:=vs;rfl
 |_=>rfl
theorem Yk (kd:Option Nat) (cs:List Value) (o:Nat) (K:Value->β):KZ z kd cs o K=z\/∃v,KZ z kd cs o K=K v/\(Jq kd cs o=some v\/kd=some 0/\v=.agg ⟨[]⟩):=by
 cases kd with
 |none=>
  show (match ND cs o with
   |some v=>K v
   |none=>z)=z\/_
  rw[NE];cases h:cs[o]? with
  |none=>exact .inl I
  |some v=>
   refine .inr ⟨v,?_,.inl h⟩;show (match ND cs o with
    |some v=>K v
    |none=>z)=K v
   rw[NE,h]
 |some n=>
  rcases Yp (z:=z) n o cs (λvs=>K (.agg ⟨vs⟩)) with h|⟨h,h2⟩|⟨rfl,h⟩
  ·exact .inl h
  ·exact .inr ⟨_,h,.inl (by simp[Jq,h2])⟩
  ·exact .inr ⟨_,h,.inr ⟨I,tqS⟩⟩
end
variable {cs:List Value}
theorem PG {kd:Option Nat} {o:Nat} (h:Jq kd cs o=some v) (pr jk:List Value):Jq kd (pr++cs.map (den G)++jk) (o+pr.length)=some (den G v):=by
 cases kd with
 |none=>
  simp only[Jq] at h⊢;obtain⟨ho,hv⟩:=Aa.1 h;rw[Eo (by simp;omega),Dp tqO];simp[ho,hv]
 |some n=>
  simp only[Jq] at h⊢;split at h
  ·rename_i hn;cases h;rw[Bi (by simp;omega),Qt]
   congr 2
   rw[Nk o,Cp,Pt,Lt (by simp;omega),C0 (by simp;omega)];simp[Ir,Ko]
  ·cases h
theorem HR.row {h:Tr Bk} {w:World} (hr:HR G h w) {t:TypeId} {op:Nat} (hk:h.get k=some (.c cs t op)):
  ∃pr jk:List Value,w.heap[(G k).b]? =some (.cells (pr++cs.map (den G)++jk).toArray t (0,0))/\HY (G k) cs.length pr.length jk.length op:=hr.bk k _ hk I
theorem HR.load {P:Program} {h:Tr Bk} {w:World} (hr:HR G h w) {o:Nat} {t ty:TypeId} {op:Nat} {kd:Option Nat} (hk:h.get k=some (.c cs ty op)) (ht:tyK P t=some kd) (hv:Jq kd cs o=some v\/kd=some 0/\v=.agg ⟨[]⟩):
  (loadVar t (dA G ⟨k,o,none⟩)).run P w=.ok (den G v) w:=by
 obtain⟨pr,jk,h1,_,_,h2⟩:=hr.row hk;rcases hv with hv|⟨rfl,rfl⟩
 ·have:=Nt ht h1 (PG (G:=G) hv pr jk);rw[<-h2] at this;exact this
 ·obtain⟨d,i,hd,hi,hs,ha⟩:=Nx ht;simp only[Hz] at hs;simp[loadVar,ha,sizeOf,typeInfo,hi,hs,loadCells,loadCellsFrom,Qt]
theorem Tk (G:Gh) (b o d:Nat) (s:Option Nat):(dA G ⟨b,o,s⟩).add d=dA G ⟨b,o+d,none⟩:=by
 unfold Addr.add dA;by_cases h:d=0
 ·simp[h]
 ·rw[Ar h];simp;omega
section
variable {P:Program} {T:Tr Value} {m:Nat} {o:Oper} {H:CH} {β:Type} {z:β}
variable {K:Value->β} {t:TypeId} {x:Operand}
theorem Ahk (ho:o.op=.load t x) (hx:C3 x=true):AA P z t (evT T x) H K=z\/∃v,AA P z t (evT T x) H K=K v/\OpP P T m o H v:=by
 unfold AA;split
 ·rename_i b off hu;split
  ·rename_i cs ty op hb;split
   ·rename_i kd hk;rcases Yk (z:=z) kd cs off K with h|⟨v,h,hv⟩
    ·exact .inl h
    ·refine .inr ⟨v,h,OpP.mk λG a w ht hr=>?_⟩;have e:=Cz ht hx;rw[hu] at e;simp only[execOp,ho,e,den,Instr.loadAt,Instr.sureAddr,Ba,Bh,An,hr.load hb hk hv]
   ·exact .inl I
  ·exact .inl I
 ·exact .inl I
variable {v:Value}
theorem Ot (h:∀(G:Gh) (a:Act) (w:World),TR G T m a.tmps->HR G H.h w->(execOp a.eval o).run P w=.ok (.value (den G v)) w):K v=z\/∃v',K v=K v'/\OpP P T m o H v':=.inr ⟨v,I,OpP.mk h⟩
theorem QB {s:TypeId} {f:Nat} (ho:o.op=.fieldAddr s x f) (hx:C3 x=true):DS P z s (evT T x) f K=z\/∃v,DS P z s (evT T x) f K=K v/\OpP P T m o H v:=by
 unfold DS;split
 ·rename_i b off hu;split
  ·rename_i fs hfs;split
   ·rename_i p hp;obtain⟨fl,h1,fd,h2,h3,h4,i,h5,h6⟩:=Zw hfs hp;refine Ot λG a w ht hr=>?_;have e:=Cz ht hx;rw[hu] at e;simp only[execOp,ho,e,den,Instr.fieldAt,At h1,h2,Instr.sureAddr,fieldPlace,sizeOf,typeInfo,h5,h6,Tk,h3,Ba,Bh,An,J2,Mu];rfl
   ·exact .inl I
  ·exact .inl I
 ·exact .inl I
theorem Aer {G:Gh} {kd:Option Nat} {cs:List Value} {o:Nat} (h:Jq kd cs o=some v):Jq kd (cs.map (den G)) o=some (den G v):=by
 have:=PG (G:=G) h [] [];simpa using this
theorem Afd {P:Program} (hk:tyK P t=some (some 0)) (cs:Array Value) (o:Nat) (w:World):(part t cs o).run P w=.ok (.agg ⟨[]⟩) w:=by
 obtain⟨d,i,hd,hi,hs,ha⟩:=Nx hk;simp only[Hz] at hs;simp only[part,Ba,ha,An,Rd,If,sizeOf,typeInfo,J2,hi,Bh,hs]
 congr 2
 apply Cn;simp
theorem PN {P:Program} {G:Gh} {kd:Option Nat} (hk:tyK P t=some kd) {cs:List Value} {o:Nat} (hv:Jq kd cs o=some v\/kd=some 0/\v=.agg ⟨[]⟩) (w:World):(part t ⟨cs.map (den G)⟩ o).run P w=.ok (den G v) w:=by
 rcases hv with hv|⟨rfl,rfl⟩
 ·exact Up hk (Aer hv) w
 ·rw[Afd hk,Qt];rfl
theorem Aek {s:TypeId} {f:Nat} (ho:o.op=.field s x f) (hx:C3 x=true):BF P z s (evT T x) f K=z\/∃v,BF P z s (evT T x) f K=K v/\OpP P T m o H v:=by
 unfold BF;split
 ·rename_i cs hu;split
  ·rename_i fs hfs;split
   ·rename_i p hp;split
    ·rename_i kd hkd;obtain⟨fl,h1,fd,h2,h3,h4,i,h5,h6⟩:=Zw hfs hp;rcases Yk (z:=z) kd cs p.1 K with h|⟨v,h,hv⟩
     ·exact .inl h
     ·refine .inr ⟨v,h,OpP.mk λG a w ht hr=>?_⟩;have e:=Cz ht hx;rw[hu,Qt] at e;rw[<-h4] at hkd;have:=PN (G:=G) hkd hv w;simp[execOp,ho,e,Instr.field,At h1,h2,asAgg,h3,this]
    ·exact .inl I
   ·exact .inl I
  ·exact .inl I
 ·exact .inl I
theorem WN {i:Nat} (ho:o.op=.extract x i) (hx:C3 x=true) {vs:List Value} (hu:evT T x=.tuple ⟨vs⟩) (hv:vs[i]? =some v):OpP P T m o H v:=OpP.mk λG a w ht hr=>by
 have e:=Cz ht hx;rw[hu,Rn] at e;simp[execOp,ho,e,Instr.extract,hv]
theorem Akw {op:UnOp} (ho:o.op=.unOp op t x) (hx:C3 x=true):unK z op (evT T x) K=z\/∃v,unK z op (evT T x) K=K v/\OpP P T m o H v:=by
 unfold unK;split
 ·rename_i b hu;split
  ·exact Ot λG a w ht hr=>by
    have e:=Cz ht hx;rw[hu] at e;simp[execOp,ho,e,Op.unary]
  ·exact Ot λG a w ht hr=>by
    have e:=Cz ht hx;rw[hu] at e;simp[execOp,ho,e,Op.unary]
 ·rename_i k n hu;exact Ot λG a w ht hr=>by
   have e:=Cz ht hx;rw[hu] at e;simp[execOp,ho,e,Op.unary,Op.intArith]
 ·exact .inl I
theorem FD {k:IntKind} (h:FC P t=some k):P.underlying t=some (.int k):=by
 unfold FC at h;split at h
 ·cases h;assumption
 ·cases h
theorem Ahi {s d:TypeId} (ho:o.op=.convert s d x) (hx:C3 x=true):QM P z s d (evT T x) K=z\/∃v,QM P z s d (evT T x) K=K v/\OpP P T m o H v:=by
 unfold QM;split
 ·rename_i k n hu;split
  ·rename_i e k' hs hd;have hd:=FD hd;exact Ot λG a w ht hr=>by
    have e:=Cz ht hx;rw[hu] at e;simp[execOp,ho,e,convert,At hs,At hd,Conv.intToInt]
  ·exact .inl I
 ·exact .inl I
theorem Xv {p:Nat×Nat} (h:tyE P t=some p):P.underlying t=some (.slice p.1)/\∃i,P.info? p.1=some i/\i.size=p.2:=by
 unfold tyE at h;split at h
 ·rename_i e he;split at h
  ·rename_i i hi;cases h;exact⟨he,i,hi,I⟩
  ·cases h
 ·cases h
theorem MD {p:Nat×Nat×Nat} (h:tyA P t=some p):P.underlying t=some (.array p.1 p.2.1)/\∃i,P.info? p.2.1=some i/\i.size=p.2.2:=by
 unfold tyA at h;split at h
 ·rename_i n e he;split at h
  ·rename_i i hi;cases h;exact⟨he,i,hi,I⟩
  ·cases h
 ·cases h
theorem WO {i:Operand} (ho:o.op=.indexAddr t x i) (hx:C3 x=true) (hi:C3 i=true):Zb P z t (evT T x) (evT T i) K=z\/∃v,Zb P z t (evT T x) (evT T i) K=K v/\OpP P T m o H v:=by
 unfold Zb;split
 ·rename_i b off sp l c k j hu hv;split
  ·rename_i p hp hj;obtain⟨he,inf,hinf,hsz⟩:=Xv hp;refine Ot λG a w ht hr=>?_;have e1:=Cz ht hx;have e2:=Cz ht hi;rw[hu] at e1;rw[hv] at e2;have hjl:j<l:=by simpa [Gr] using hj
   have hj2:(0:Int)<=Int.ofNat j/\Int.ofNat j<(l:Int):=⟨Hv j,by simpa using hjl⟩;simp only[execOp,ho,e1,e2,den,Instr.indexAt,asIntOf,At he,Ba,Bh,An,hj2,and_self,If,sizeOf,typeInfo,J2,hinf,hsz];simp[Tk]
  ·exact .inl I
 ·rename_i b off k j hu hv;split
  ·rename_i p hp;split
   ·rename_i hj;obtain⟨he,inf,hinf,hsz⟩:=MD hp;refine Ot λG a w ht hr=>?_;have e1:=Cz ht hx;have e2:=Cz ht hi;rw[hu] at e1;rw[hv] at e2;have hjl:j<p.1:=by simpa [Gr] using hj
    have hj2:(0:Int)<=Int.ofNat j/\Int.ofNat j<(p.1:Int):=⟨Hv j,by simpa using hjl⟩;simp only[execOp,ho,e1,e2,den,Instr.indexAt,asIntOf,At he,Ba,Bh,An,Instr.sureAddr,hj2,and_self,If,sizeOf,typeInfo,J2,hinf,hsz];simp[Tk]
   ·exact .inl I
  ·exact .inl I
 ·exact .inl I
theorem VH (h:QZ P t=true):P.underlying t=some .string:=by
 unfold QZ at h;split at h
 ·assumption
 ·cases h
theorem Ael {i:Operand} (ho:o.op=.index t x i) (hx:C3 x=true) (hi:C3 i=true):DX P z t (evT T x) (evT T i) K=z\/∃v,DX P z t (evT T x) (evT T i) K=K v/\OpP P T m o H v:=by
 unfold DX;split
 ·rename_i cs k j hu hv;split
  ·rename_i p hp;split
   ·rename_i kd hj hkd;obtain⟨he,inf,hinf,hsz⟩:=MD hp;rcases Yk (z:=z) kd cs (Nat.mul j p.2.2) K with h|⟨v,h,hpv⟩
    ·exact .inl h
    ·refine .inr ⟨v,h,OpP.mk λG a w ht hr=>?_⟩;have e1:=Cz ht hx;have e2:=Cz ht hi;rw[hu,Qt] at e1;rw[hv] at e2;have hjl:j<p.1:=by simpa [Gr] using hj
     have hj2:(0:Int)<=Int.ofNat j/\Int.ofNat j<(p.1:Int):=⟨Hv j,by simpa using hjl⟩;have:=PN (G:=G) hkd hpv w;simp only[Nat.mul_eq] at this;have hj3:(0:Int)<=(j:Int)/\(j:Int)<(p.1:Int):=hj2;simp only[execOp,ho,e1,e2,den,Instr.index,asIntOf,At he,Ba,Bh,An,hj3,and_self,If,sizeOf,typeInfo,J2,hinf,hsz,U3,Ej,this]
   ·exact .inl I
  ·exact .inl I
 ·rename_i s k j hu hv;split
  ·rename_i bt hs hj;have hs:=VH hs;refine Ot λG a w ht hr=>?_;have e1:=Cz ht hx;have e2:=Cz ht hi;rw[hu] at e1;rw[hv] at e2;have hj2:(0:Int)<=(j:Int):=Hv j;simp only[execOp,ho,e1,e2,den,Instr.index,asIntOf,At hs,Ba,Bh,An,hj2,If,U3,Ej,hj]
  ·exact .inl I
 ·exact .inl I
theorem EJ (ho:o.op=.nilCheck x) (hx:C3 x=true) (hu:evT T x=v) (hv:(∃a,v=.pointer (some a))\/∃f a b,v=.func (.func f) a b):OpP P T m o H v:=OpP.mk λG a w ht hr=>by
 have e:=Cz ht hx;rw[hu] at e;rcases hv with ⟨b,rfl⟩|⟨f,⟨b⟩,⟨c⟩,rfl⟩
 ·simp only[den] at e;simp[execOp,ho,e,den]
 ·rw[Ma] at e;simp[execOp,ho,e,Ma,dF]
theorem TL {f:FuncId} {p q:Array Operand} (ho:o.op=.makeFunc (.func f) p q) (hp:∀x∈p.toList,C3 x=true) (hq:∀x∈q.toList,C3 x=true):OpP P T m o H (.func (.func f) (p.map (evT T)) (q.map (evT T))):=OpP.mk λG a w ht hr=>by
 have key:∀r:Array Operand,(∀x∈r.toList,C3 x=true)->r.map a.eval=⟨(r.map (evT T)).toList.map (den G)⟩:=λr hr=>by
  apply Cn;simp only[Di,Fp];exact Gv λx hx=>Cz ht (hr x hx)
 have e:den G (.func (.func f) (p.map (evT T)) (q.map (evT T)))=.func (.func f) ⟨(p.map (evT T)).toList.map (den G)⟩ ⟨(q.map (evT T)).toList.map (den G)⟩:=Ma G _ _ _;simp only[execOp,ho,Instr.makeFunc,key p hp,key q hq,e,Ba,Bh,An]
end
section
variable {P:Program} {T:Tr Value} {m:Nat} {o:Oper} {H:CH} {β:Type} {z:β}
theorem PO {s:Sem Value} {K:Value->β}:EV z s K=z\/∃v,EV z s K=K v/\s=.pure v/\∀G,den G v=v:=by
 unfold EV;split
 ·split
  ·exact .inr ⟨_,I,I,λ_=>I⟩
  ·exact .inr ⟨_,I,I,λ_=>I⟩
  ·exact .inr ⟨_,I,I,λ_=>I⟩
  ·exact .inl I
 ·exact .inl I
theorem Agt {k:Nat} {x y:Value} {q:Bool} (h:MY k x y=some q) (G:Gh):den G x=x/\den G y=y:=by
 unfold MY at h;split at h
 ·exact⟨I,I⟩
 ·exact⟨I,I⟩
 ·cases h
theorem SA {G:Gh}:∀ {ks:List Nat} {xs ys:List Value} {q:Bool},Il ks xs ys=some q->xs.map (den G)=xs/\ys.map (den G)=ys
 | [],[],[],_,_=>⟨I,I⟩
 |k::ks,x::xs,y::ys,q,h=>by
  simp only[Il] at h;split at h
  ·rename_i p s hp hs;obtain⟨h1,h2⟩:=SA (G:=G) hs;obtain⟨h3,h4⟩:=Agt hp G;exact⟨by rw[Bj,h1,h3],by rw[Bj,h2,h4]⟩
  ·cases h
variable {t:TypeId}
theorem Afs (h:VE P t=true):P.underlying t=some .bool:=by
 unfold VE at h;split at h
 ·assumption
 ·cases h
theorem VG (h:QY P t=true):∃e,P.underlying t=some (.pointer e):=by
 unfold QY at h;split at h
 ·exact⟨_,by assumption⟩
 ·cases h
theorem Wq (h:AP P t=true):∃e,P.underlying t=some (.slice e):=by
 unfold AP at h;split at h
 ·exact⟨_,by assumption⟩
 ·cases h
theorem JG (h:ME P t=true):∃a b c,P.underlying t=some (.func a b c):=by
 unfold ME at h;split at h
 ·exact⟨_,_,_,by assumption⟩
 ·cases h
variable {op:BinOp}
theorem Qx {P:Program} {u v:Value} {c d:Bool} {w:World} (hq:(Op.equal t u v).run P w=.ok c w) (hop:ZV op c=some d) (h1:∀s,u≠.string s) (h2:∀k n,u≠.int k n) (h3:∀k n,u≠.float k n) (h4:∀k n l,u≠.complex k n l):
  (binOp op t u v).run P w=.ok (.bool d) w:=by
 unfold ZV at hop;split at hop
 ·cases hop;cases u<;>first|exact absurd rfl (h1 _)|exact absurd rfl (h2 _ _)|exact absurd rfl (h3 _ _)|exact absurd rfl (h4 _ _ _)|simp[binOp,hq]
 ·cases hop;cases u<;>first|exact absurd rfl (h1 _)|exact absurd rfl (h2 _ _)|exact absurd rfl (h3 _ _)|exact absurd rfl (h4 _ _ _)|simp[binOp,hq]
 ·cases hop
variable {x y:Operand}
theorem Kr {u v:Value} {w:World} (h1:∀a b,u=.agg a->v=.agg b->False) (h2:u=.nilIface->v=.nilIface->False):(eqGuard op t x y u v).run P w=.ok () w:=by
 have key:∀(p:Sem Unit) (q:Array Value->Array Value->Sem Unit),Sem.run P (match u,v with
   | .nilIface,.nilIface=>p
   | .agg a,.agg b=>q a b
   |_,_=>pure ()) w=.ok () w:=λp q=>by
  split
  ·exact(h2 I I).elim
  ·exact(h1 _ _ I I).elim
  ·rfl
 unfold eqGuard;cases op<;>first|rfl|exact key _ λ_ _=>_
variable {e:TypeId}
theorem XO (he:P.underlying t=some (.pointer e)) (d:Nat) (b:Option Addr) (w:World):(Op.equalIn (d+1) t (.pointer none) (.pointer b)).run P w=.ok b.isNone w:=by
 cases b<;>simp[Op.equalIn,At he]
theorem Agp (he:P.underlying t=some (.pointer e)) (d:Nat) (b:Addr) (w:World):(Op.equalIn (d+1) t (.pointer (some b)) (.pointer none)).run P w=.ok false w:=by
 simp[Op.equalIn,At he]
theorem XP (he:P.underlying t=some (.slice e)) (d:Nat) (b:Option Addr) (l c l' c':Nat) (w:World):(Op.equalIn (d+1) t (.slice none l c) (.slice b l' c')).run P w=.ok b.isNone w:=by
 simp[Op.equalIn,At he]
theorem Agq (he:P.underlying t=some (.slice e)) (d:Nat) (b:Addr) (l c l' c':Nat) (w:World):(Op.equalIn (d+1) t (.slice (some b) l c) (.slice none l' c')).run P w=.ok false w:=by
 simp[Op.equalIn,At he]
theorem Ajq {p q r} (he:P.underlying t=some (.func p q r)) (d:Nat) (w:World):(Op.equalIn (d+1) t .nilFunc .nilFunc).run P w=.ok true w:=by
 simp[Op.equalIn,At he]
theorem Agn {p q r} (he:P.underlying t=some (.func p q r)) (d:Nat) (f:Fn) (a b:Array Value) (w:World):(Op.equalIn (d+1) t .nilFunc (.func f a b)).run P w=.ok false w:=by
 simp[Op.equalIn,At he]
theorem Ago {p q r} (he:P.underlying t=some (.func p q r)) (d:Nat) (f:Fn) (a b:Array Value) (w:World):(Op.equalIn (d+1) t (.func f a b) .nilFunc).run P w=.ok false w:=by
 simp[Op.equalIn,At he]
theorem Ajp {u v:Value} {c d:Bool} (h:eqV P t u v=some c) (hop:ZV op c=some d) (G:Gh) (x y:Operand) (w:World):
  (eqGuard op t x y (den G u) (den G v)).run P w=.ok () w/\(binOp op t (den G u) (den G v)).run P w=.ok (.bool d) w:=by
 unfold eqV at h;split at h
 ·split at h
  ·cases h;refine⟨Kr (λ_ _ h=>nomatch h) (λh=>nomatch h),Qx ?_ hop (λ_ h=>nomatch h) (λ_ _ h=>nomatch h) (λ_ _ h=>nomatch h) (λ_ _ _ h=>nomatch h)⟩;exact Td w 9999 t _ _ (Afs (by assumption))
  ·cases h
 ·split at h
  ·cases h;rename_i b _ ht;obtain⟨e,he⟩:=VG ht;refine⟨Kr (λ_ _ h=>nomatch h) (λh=>nomatch h),Qx ?_ hop (λ_ h=>nomatch h) (λ_ _ h=>nomatch h) (λ_ _ h=>nomatch h) (λ_ _ _ h=>nomatch h)⟩;cases b with
   |none=>exact XO he 9999 none w
   |some b=>exact XO he 9999 (some (dA G b)) w
  ·cases h
 ·split at h
  ·cases h;rename_i a _ ht;obtain⟨e,he⟩:=VG ht;refine⟨Kr (λ_ _ h=>nomatch h) (λh=>nomatch h),Qx ?_ hop (λ_ h=>nomatch h) (λ_ _ h=>nomatch h) (λ_ _ h=>nomatch h) (λ_ _ _ h=>nomatch h)⟩;exact Agp he 9999 (dA G a) w
  ·cases h
 ·split at h
  ·cases h;rename_i b _ _ _ ht;obtain⟨e,he⟩:=Wq ht;cases b with
   |none=>
    refine⟨Kr (λ_ _ h=>nomatch h) (λh=>nomatch h),Qx ?_ hop (λ_ h=>nomatch h) (λ_ _ h=>nomatch h) (λ_ _ h=>nomatch h) (λ_ _ _ h=>nomatch h)⟩;exact XP he 9999 none _ _ _ _ w
   |some b=>
    refine⟨Kr (λ_ _ h=>nomatch h) (λh=>nomatch h),Qx ?_ hop (λ_ h=>nomatch h) (λ_ _ h=>nomatch h) (λ_ _ h=>nomatch h) (λ_ _ _ h=>nomatch h)⟩;exact XP he 9999 (some (dA G b)) _ _ _ _ w
  ·cases h
 ·split at h
  ·cases h;rename_i ht;obtain⟨e,he⟩:=Wq ht;refine⟨Kr (λ_ _ h=>nomatch h) (λh=>nomatch h),Qx ?_ hop (λ_ h=>nomatch h) (λ_ _ h=>nomatch h) (λ_ _ h=>nomatch h) (λ_ _ _ h=>nomatch h)⟩;exact Agq he 9999 _ _ _ _ _ w
  ·cases h
 ·split at h
  ·cases h;rename_i ht;obtain⟨e,e2,e3,he⟩:=JG ht;refine⟨Kr (λ_ _ h=>nomatch h) (λh=>nomatch h),Qx ?_ hop (λ_ h=>nomatch h) (λ_ _ h=>nomatch h) (λ_ _ h=>nomatch h) (λ_ _ _ h=>nomatch h)⟩;exact Ajq he 9999 w
  ·cases h
 ·split at h
  ·cases h;rename_i fn f c _ ht;obtain⟨e,e2,e3,he⟩:=JG ht;obtain⟨f⟩:=f;obtain⟨c⟩:=c;rw[Ma];refine⟨Kr (λ_ _ h=>nomatch h) (λh=>nomatch h),Qx ?_ hop (λ_ h=>nomatch h) (λ_ _ h=>nomatch h) (λ_ _ h=>nomatch h) (λ_ _ _ h=>nomatch h)⟩;exact Agn he 9999 _ _ _ w
  ·cases h
 ·split at h
  ·cases h;rename_i fn f c _ ht;obtain⟨e,e2,e3,he⟩:=JG ht;obtain⟨f⟩:=f;obtain⟨c⟩:=c;rw[Ma];refine⟨Kr (λ_ _ h=>nomatch h) (λh=>nomatch h),Qx ?_ hop (λ_ h=>nomatch h) (λ_ _ h=>nomatch h) (λ_ _ h=>nomatch h) (λ_ _ _ h=>nomatch h)⟩;exact Ago he 9999 _ _ _ w
  ·cases h
 ·rename_i xs ys;split at h
  ·rename_i hok;split at h
   ·rename_i ks hks;obtain⟨hx,hy⟩:=SA (G:=G) h;simp only[Ui,Ad,Ei] at hok;have hm:∀zs:List Value,mkF P t zs=.agg zs.toArray:=λzs=>by simp[mkF,hok.2]
    have:=Vf hks h (d':=10000) tqD w;rw[hm,hm] at this;rw[Qt,Qt,hx,hy];exact⟨run_eqGuard_agg w op t x y _ _ hok.1,Qx this hop (λ_ h=>nomatch h) (λ_ _ h=>nomatch h) (λ_ _ h=>nomatch h) (λ_ _ _ h=>nomatch h)⟩
   ·cases h
  ·cases h
 ·cases h
theorem Age {k:IntKind} {a b:Int} {c:Bool} (h:Agd op a b=some c) (t:TypeId) (w:World):(binOp op t (.int k a) (.int k b)).run P w=.ok (.bool c) w:=by
 unfold Agd at h;split at h<;>cases h<;>simp[binOp,Op.intCmp]
theorem Af6 {k:IntKind} {a b c:Int} (h:Af5 op k a b=some c) (t:TypeId) (w:World):(binOp op t (.int k a) (.int k b)).run P w=.ok (.int k c) w:=by
 unfold Af5 at h;split at h<;>cases h<;>simp[binOp,Op.intArith]
theorem AT {k k':IntKind} {a b:Int} {w:World}:(eqGuard op t x y (.int k a) (.int k' b)).run P w=.ok () w:=by
 unfold eqGuard;cases op<;>simp
theorem WE {a b:ByteArray} {w:World}:(eqGuard op t x y (.string a) (.string b)).run P w=.ok () w:=by
 unfold eqGuard;cases op<;>simp
theorem Aeh {t2:TypeId} (ho:o.op=.binOp op t x y t2) (hx:C3 x=true) (hy:C3 y=true) {K:Value->β}:RF P z op t (evT T x) (evT T y) K=z\/∃v,RF P z op t (evT T x) (evT T y) K=K v/\OpP P T m o H v:=by
 unfold RF;split
 ·rename_i k a k' b hu hv;have semi:EV z (binOp op t (.int k a) (.int k' b)) K=z\/∃v,EV z (binOp op t (.int k a) (.int k' b)) K=K v/\OpP P T m o H v:=by
   rcases PO (z:=z) (s:=binOp op t (.int k a) (.int k' b)) (K:=K) with h|⟨v,h,h1,h2⟩
   ·exact .inl h
   ·refine .inr ⟨v,h,OpP.mk λG a w ht hr=>?_⟩;have e1:=Cz ht hx;have e2:=Cz ht hy;rw[hu] at e1;rw[hv] at e2;simp only[Qu] at e1 e2;simp only[execOp,ho,e1,e2,Ba,AT,An,h1,h2];rfl
  split
  ·rename_i hk;have hk:k=k':=by simpa using hk
   subst hk;split
   ·rename_i c hc;refine Ot λG a w ht hr=>?_;have e1:=Cz ht hx;have e2:=Cz ht hy;rw[hu] at e1;rw[hv] at e2;simp only[Qu] at e1 e2;simp only[execOp,ho,e1,e2,Ba,AT,An,Age hc,Bh,RR]
   ·split
    ·rename_i c hc;refine Ot λG a w ht hr=>?_;have e1:=Cz ht hx;have e2:=Cz ht hy;rw[hu] at e1;rw[hv] at e2;simp only[Qu] at e1 e2;simp only[execOp,ho,e1,e2,Ba,AT,An,Af6 hc,Bh,Qu]
    ·exact semi
  ·exact semi
 ·rename_i a b hu hv;rcases PO (z:=z) (s:=binOp op t (.string a) (.string b)) (K:=K) with h|⟨v,h,h1,h2⟩
  ·exact .inl h
  ·refine .inr ⟨v,h,OpP.mk λG a w ht hr=>?_⟩;have e1:=Cz ht hx;have e2:=Cz ht hy;rw[hu] at e1;rw[hv] at e2;simp only[ZM] at e1 e2;simp only[execOp,ho,e1,e2,Ba,WE,An,h1,h2];rfl
 ·split
  ·rename_i c hc;split
   ·rename_i d hd;refine Ot λG a w ht hr=>?_;have e1:=Cz ht hx;have e2:=Cz ht hy;obtain⟨h1,h2⟩:=Ajp hc hd G x y w;simp only[execOp,ho,e1,e2,Ba,h1,An,h2,Bh,RR]
   ·exact .inl I
  ·exact .inl I
end
section
variable {P:Program} {T:Tr Value} {m:Nat} {o:Oper} {H:CH} {β:Type} {z:β}
variable {t:TypeId}
theorem Ov {zs:List Value} (h:Qq P t=some zs):∃i v,P.info? t=some i/\i.zero=some v/\v.cells.toList=zs/\zs.length=i.size/\plainV v=true/\∀G,zs.map (den G)=zs:=by
 unfold Qq at h;split at h
 ·rename_i i hi;split at h
  ·rename_i v hv;split at h
   ·rename_i hp;cases h;rw[Ad] at hp;refine⟨i,v,hi,hv,I,by simpa using hp.2,hp.1,λG=>?_⟩;rw[<-Uu,den_plain G v hp.1]
   ·cases h
  ·cases h
 ·cases h
theorem J0 {γ:Type} (a:Array γ):C2 a=a.toList:=rfl
theorem KE {fs:List (Nat×Nat)} {place:Nat->Option (Nat×Nat)} (hpl:∀i p,fs[i]? =some p->∀kd,tyK P p.2=some kd->place i=some (p.1,kd.getD 1)/\kd.getD 1≠0):
  ∀(ps:List (Nat×Operand)) (cs:List Value) (K:List Value->β),(∀p∈ps,C3 p.2=true)->FP P z T fs ps cs K=z\/∃ds,FP P z T fs ps cs K=K ds/\
   ∀(G:Gh) (a:Act),TR G T m a.tmps->Instr.fill place (cs.map (den G)).toArray (ps.map λp=>(p.1,a.eval p.2))=some (ds.map (den G)).toArray
 | [],cs,K,_=>.inr ⟨cs,I,λ_ _ _=>I⟩
 |p::ps,cs,K,hok=>by
  have e:FP P z T fs (p::ps) cs K=match fs[p.1]? with
   |some q=>match tyK P q.2 with
    |some kd=>match Nat.beq (evT T p.2).cells.size (kd.getD 1) with
     |true=>Sv z (C2 (evT T p.2).cells) cs q.1 λcs=>FP P z T fs ps cs K
     |false=>z
    |none=>z
   |none=>z:=rfl
  rw[e];split
  ·rename_i q hq;split
   ·rename_i kd hkd;split
    ·rename_i hsz;have hsz:=Bq hsz;obtain⟨hp1,hp2⟩:=hpl _ _ hq _ hkd;rcases Qd (z:=z) (C2 (evT T p.2).cells) cs q.1 (λcs=>FP P z T fs ps cs K) with h|⟨h,h2,_⟩
     ·exact .inl h
     ·have hl:(evT T p.2).cells.toList.length=kd.getD 1:=by simpa using hsz
      have h2:q.1+(evT T p.2).cells.toList.length<=cs.length:=by
       rcases h2 with h2|h2
       ·rw[J0] at h2;rw[h2] at hl;simp at hl;omega
       ·exact h2
      rcases KE hpl ps (J7 cs q.1 (evT T p.2).cells.toList) K (λp hp=>hok p (B3 _ hp)) with h3|⟨ds,h3,h4⟩
      ·exact .inl (h.trans h3)
      ·refine .inr ⟨ds,h.trans h3,λG a ht=>?_⟩;have e1:=Cz ht (hok p F7);rw[Bj,Z8 (xs:=(evT T p.2).cells.toList.map (den G)) hp1 (by rw[e1,<-Uu]) (by simpa using hl) (by simpa using h2)];have:=h4 G a ht;rw[Wm] at this;exact this
    ·exact .inl I
   ·exact .inl I
  ·exact .inl I
theorem W2 {sz:Nat}:∀(ps:List (Nat×Operand)) (cs:List Value) (K:List Value->β),(∀p∈ps,C3 p.2=true)->Xj z T (sz+1) ps cs K=z\/∃ds,Xj z T (sz+1) ps cs K=K ds/\ds.length=cs.length/\
   ∀(G:Gh) (a:Act),TR G T m a.tmps->Instr.fill (λi=>some (i*(sz+1),sz+1)) (cs.map (den G)).toArray (ps.map λp=>(p.1,a.eval p.2))=some (ds.map (den G)).toArray
 | [],cs,K,_=>.inr ⟨cs,I,I,λ_ _ _=>I⟩
 |p::ps,cs,K,hok=>by
  have e:Xj z T (sz+1) (p::ps) cs K=match Nat.beq (evT T p.2).cells.size (sz+1) with
   |true=>Sv z (C2 (evT T p.2).cells) cs (Nat.mul p.1 (sz+1)) λcs=>Xj z T (sz+1) ps cs K
   |false=>z:=rfl
  rw[e];split
  ·rename_i hsz;have hsz:=Bq hsz;rcases Qd (z:=z) (C2 (evT T p.2).cells) cs (Nat.mul p.1 (sz+1)) (λcs=>Xj z T (sz+1) ps cs K) with h|⟨h,h2,_⟩
   ·exact .inl h
   ·have hl:(evT T p.2).cells.toList.length=sz+1:=by simpa using hsz
    have h2:p.1*(sz+1)+(evT T p.2).cells.toList.length<=cs.length:=by
     rcases h2 with h2|h2
     ·rw[J0] at h2;rw[h2] at hl;simp at hl
     ·exact h2
    rcases W2 ps (J7 cs (p.1*(sz+1)) (evT T p.2).cells.toList) K (λp hp=>hok p (B3 _ hp)) with h3|⟨ds,h3,h5,h4⟩
    ·exact .inl (h.trans h3)
    ·refine .inr ⟨ds,h.trans h3,h5.trans (Zt h2),λG a ht=>?_⟩;have e1:=Cz ht (hok p F7);rw[Bj,Z8 (xs:=(evT T p.2).cells.toList.map (den G)) I (by rw[e1,<-Uu]) (by simpa using hl) (by simpa using h2)];have:=h4 G a ht;rw[Wm] at this;exact this
  ·exact .inl I
theorem Aca {s:TypeId} {fs:List (Nat×Nat)} (h:tyF P s=some fs):∃(fl:Array Field) (places:List (Nat×Nat)),P.underlying s=some (.struct fl)/\fl.toList.mapM (λf=>(P.info? f.type).map λi=>(f.offset,i.size))=some places/\
  ∀(i:Nat) (p:Nat×Nat),fs[i]? =some p->∀kd,tyK P p.2=some kd->(places.toArray[i]?)=some (p.1,kd.getD 1)/\kd.getD 1≠0:=by
 have h0:=h;unfold tyF at h;split at h
 ·rename_i fl hfl;split at h
  ·rename_i hall;cases h;obtain⟨places,hp1,hp2⟩:=AH _ hall;refine⟨fl,places,hfl,hp1,λi p hp kd hkd=>?_⟩;obtain⟨fl',h1,fd,h2,h3,h4,inf,h5,h6⟩:=Zw h0 hp;rw[hfl] at h1;cases h1;rw[<-h4] at hkd;have:=hp2 i fd kd (by simpa using h2) hkd;rw[h3] at this;refine⟨by simpa using this,?_⟩;obtain⟨d,i',_,hi',hs,_⟩:=Nx hkd;rw[h5] at hi';cases hi';rw[<-hs];exact h6
  ·cases h
 ·cases h
theorem Aei {ps:Array (Nat×Operand)} (ho:o.op=.build t ps) (hok:∀p∈ps.toList,C3 p.2=true) {K:Value->β}:DN P z T t ps.toList K=z\/∃v,DN P z T t ps.toList K=K v/\OpP P T m o H v:=by
 unfold DN;split
 ·rename_i zs hz;obtain⟨i,v0,hi,hzv,hcs,hlen,_,hzd⟩:=Ov hz;have hc0:v0.cells=zs.toArray:=by rw[<-hcs]
  split
  ·rename_i fs hfs;obtain⟨fl,places,h1,h2,h3⟩:=Aca hfs;rcases KE (z:=z) (m:=m) (T:=T) (P:=P) h3 ps.toList zs (λcs=>K (.agg ⟨cs⟩)) hok with h|⟨ds,h,h4⟩
   ·exact .inl h
   ·refine .inr ⟨_,h,OpP.mk λG a w ht hr=>?_⟩;have hf:=h4 G a ht;rw[hzd G] at hf;have hb:P.built t (ps.map λ(i,x)=>(i,a.eval x)).toList=some (ds.map (den G)).toArray:=by
     unfold Program.built;simp only[hi,h1,hzv,h2,hc0];rw[Di];exact hf
    simp only[execOp,ho,Ba,run_build w t _ _ hb,An,Bh,Qt]
  ·split
   ·rename_i p hp;obtain⟨he,inf,hinf,hsz⟩:=MD hp;split
    ·rename_i sz hs;rcases W2 (z:=z) (m:=m) (T:=T) (sz:=sz) ps.toList zs (λcs=>K (.agg ⟨cs⟩)) hok with h|⟨ds,h,_,h4⟩
     ·exact .inl h
     ·refine .inr ⟨_,h,OpP.mk λG a w ht hr=>?_⟩;have hf:=h4 G a ht;rw[hzd G] at hf;have hb:P.built t (ps.map λ(i,x)=>(i,a.eval x)).toList=some (ds.map (den G)).toArray:=by
       unfold Program.built;simp only[hi,he,hzv,hinf,hc0,hsz,hs];rw[Di];exact hf
      simp only[execOp,ho,Ba,run_build w t _ _ hb,An,Bh,Qt]
    ·exact .inl I
   ·exact .inl I
 ·exact .inl I
theorem VF {e:TypeId} (h:tyM P t=some e):∃k ik,P.underlying t=some (.map k e)/\P.underlying k=some (.int ik):=by
 unfold tyM at h;split at h
 ·rename_i k e' he;split at h
  ·rename_i ik hik;cases h;exact⟨k,ik,he,FD hik⟩
  ·cases h
 ·cases h
theorem Vh {ik:IntKind} {k:IntKind} {a:Int}:∀ {es:List MapEntry} {i:Nat} {r:Option (Nat×Value)},X7 k a es i=some r->∀G:Gh,Instr.findNow (.int ik) (.int k a) (es.map (Pn G)) i=some (r.map λp=>(p.1,den G p.2))
 | [],i,r,h,G=>by simp only[X7,B7] at h;subst h;rfl
 |e::es,i,r,h,G=>by
  simp only[X7] at h;split at h
  ·rename_i k' b hk;split at h
   ·rename_i hkk;have hkk:k=k':=by simpa using hkk
    subst hkk;split at h
    ·rename_i hab;cases h;simp[Instr.findNow,Pn,hk,Instr.sameNow,hab]
    ·rename_i hab;have:=Vh (ik:=ik) h G;simp[Instr.findNow,Pn,hk,Instr.sameNow,hab,this]
   ·cases h
  ·cases h
theorem MF {v:Value} (h:GE P t=some v):∃i,P.info? t=some i/\i.zero=some v/\plainV v=true:=by
 unfold GE at h;split at h
 ·rename_i i hi;split at h
  ·rename_i v' hv;split at h
   ·rename_i hp;cases h;exact⟨i,hi,hv,hp⟩
   ·cases h
  ·cases h
 ·cases h
theorem Vt {P:Program} {w:World} {r:Nat} {es:Array MapEntry} {n:Nat} (h:w.heap[r]? =some (.map es n)):(getObj r).run P w=.ok (.map es n) w:=by
 simp[getObj,Sem.run,h]
theorem IG (G:Gh) (v:Value) (b:Bool):den G (.tuple #[v,.bool b])=.tuple #[den G v,.bool b]:=Rn G [v,.bool b]
theorem R6 {P:Program} {k:TypeId} {ik k':IntKind} {a:Int} (hk:P.underlying k=some (.int ik)) (b:Bool) (d:Nat) (w:World):(Instr.checkKey b (d+1) k (.int k' a)).run P w=.ok () w:=by
 simp[Instr.checkKey,At hk]
theorem Aa4 {x i:Operand} {c:Bool} (ho:o.op=.lookup t x i c) (hx:C3 x=true) (hi:C3 i=true) {K:Value->β}:FV P z t (evT T x) (evT T i) c H K=z\/∃v,FV P z t (evT T x) (evT T i) c H K=K v/\OpP P T m o H v:=by
 unfold FV;split
 ·rename_i e k a he hv;obtain⟨kt,ik,h1,h2⟩:=VF he;dsimp only;split
  ·rename_i hu;split
   ·rename_i v hz;obtain⟨inf,h3,h4,h5⟩:=MF hz;refine Ot λG a' w ht hr=>?_;have e1:=Cz ht hx;have e2:=Cz ht hi;rw[hu] at e1;rw[hv] at e2;simp only[Qu] at e2;simp only[den] at e1;have hck:=R6 (P:=P) (a:=a) (k':=k) h2 true 9999 w;cases c<;>simp[execOp,ho,e1,e2,Instr.lookup,At h1,hck,Instr.findKey,At h2,Instr.findNow,zeroValue,typeInfo,h3,h4,IG,den_plain G v h5]
   ·exact .inl I
  ·rename_i r hu;split
   ·rename_i es n hb;have hb0:∀(G:Gh) (w:World),HR G H.h w->w.heap[(G r).b]? =some (.map ⟨es.map (Pn G)⟩ n):=λG w hr=>hr.bk r _ hb I;split
    ·rename_i p hf;refine Ot λG a' w ht hr=>?_;have e1:=Cz ht hx;have e2:=Cz ht hi;rw[hu] at e1;rw[hv] at e2;simp only[Qu] at e2;simp only[den] at e1;have hff:=Vh (ik:=ik) hf G;simp only[Gf] at hff;have hck:=λb=>R6 (P:=P) (a:=a) (k':=k) h2 b 9999 w;cases c<;>simp[execOp,ho,e1,e2,Instr.lookup,At h1,Vt (hb0 G w hr),hck,Instr.findKey,At h2,hff,IG]
    ·rename_i hf;split
     ·rename_i v hz;obtain⟨inf,h3,h4,h5⟩:=MF hz;refine Ot λG a' w ht hr=>?_;have e1:=Cz ht hx;have e2:=Cz ht hi;rw[hu] at e1;rw[hv] at e2;simp only[Qu] at e2;simp only[den] at e1;have hff:=Vh (ik:=ik) hf G;simp only[Kh] at hff;have hck:=λb=>R6 (P:=P) (a:=a) (k':=k) h2 b 9999 w;cases c<;>simp[execOp,ho,e1,e2,Instr.lookup,At h1,Vt (hb0 G w hr),hck,Instr.findKey,At h2,hff,zeroValue,typeInfo,h3,h4,IG,den_plain G v h5]
     ·exact .inl I
    ·exact .inl I
   ·exact .inl I
  ·exact .inl I
 ·exact .inl I
variable {ts:List TypeId}
theorem QL {c:Call} {b:Builtin} {xs:List Operand} (ho:o.op=.call c) (hc:c.callee=.builtin b) (hts:c.argTypes.toList=ts) (hxs:c.args.toList=xs) (a:Act):
  execOp a.eval o=builtin b ⟨ts⟩ o.type (c.args.map fun| .const _=>true|_=>false) ⟨xs.map a.eval⟩:=by
 have h1:c.argTypes=⟨ts⟩:=by rw[<-hts]
 have h2:c.args.map a.eval=⟨xs.map a.eval⟩:=by rw[<-hxs];apply Cn;simp
 simp only[execOp,ho,resolve,hc,h1,h2];rfl
theorem Yw {G:Gh} {a:Act} (ht:TR G T m a.tmps):∀ {xs:List Operand},(∀x∈xs,C3 x=true)->xs.map a.eval=(xs.map (evT T)).map (den G)
 | [],_=>rfl
 |x::xs,h=>by
  rw[Bj,Bj,Bj,Cz ht (h x F7),Yw ht λy hy=>h y (B3 _ hy)]
theorem Akv {c:Call} {x:Value} {args:List Operand} (ho:o.op=.call c) (hc:c.callee=.builtin .len) (hts:c.argTypes.toList=ts) (hxs:c.args.toList=args) (hok:∀x∈args,C3 x=true) (hx:args.map (evT T)=[x])
  {K:Value->CH->β}:Aao P z ts x H K=z\/∃v,Aao P z ts x H K=K v H/\OpP P T m o H v:=by
 have fin:∀ {v:Value} {L:List TypeId},ts=L->(∀(G:Gh) (a:Act) (w:World),HR G H.h w->(Builtin.len_ ⟨L⟩ o.type #[den G x]).run P w=.ok (den G v) w)->K v H=z\/∃v',K v H=K v' H/\OpP P T m o H v':=λ{v L} hL h=>by
  refine .inr ⟨v,I,OpP.mk λG a w ht hr=>?_⟩;rw[QL ho hc hts hxs a,Yw ht hok,hx,hL];simp only[builtin,Bj,E4,Ba,h G a w hr,An,Bh]
 unfold Aao;split
 ·rename_i t L a l cp;split
  ·rename_i h;obtain⟨e,he⟩:=Wq h;refine fin I λG a' w hr=>?_;cases a<;>simp[Builtin.len_,At he,den,goInt]
  ·exact .inl I
 ·rename_i t L s;split
  ·rename_i h;have he:=VH h;refine fin I λG a' w hr=>?_;simp[Builtin.len_,At he,den,goInt]
  ·exact .inl I
 ·rename_i t L r;split
  ·rename_i e es n he hb;obtain⟨k,ik,h1,_⟩:=VF he;refine fin I λG a' w hr=>?_;have hb0:w.heap[(G r).b]? =some (.map ⟨es.map (Pn G)⟩ n):=hr.bk r _ hb I;simp[Builtin.len_,At h1,den,goInt,Vt hb0]
  ·exact .inl I
 ·exact .inl I
theorem RY {G:Gh} {b o:Nat} {sp:Option Nat} {c l p j op:Nat} (hr:HY (G b) l p j op) (h:op=0\/(sp.isSome||Nat.blt (Nat.add o (Nat.mul c op)) l)=true):ext G ⟨b,o,sp⟩ c=0:=by
 unfold ext;rcases Oe op with h0|h0
 ·split
  ·rfl
  ·exact(hr.1 h0).2.2
 ·obtain⟨h1,h2,_⟩:=hr.2.1 tqO;rcases h with h|h
  ·omega
  ·rw[Bi];simp only[Fw,Gr] at h;simp only[Fw,Aq];rcases h with h|h
   ·exact .inl h
   ·refine .inr ?_;show o+c*(G b).sz<(G b).N
    rw[h1,h2];exact h
theorem Aku {c:Call} {x:Value} {args:List Operand} (ho:o.op=.call c) (hc:c.callee=.builtin .cap) (hts:c.argTypes.toList=ts) (hxs:c.args.toList=args) (hok:∀x∈args,C3 x=true) (hx:args.map (evT T)=[x])
  {K:Value->CH->β}:ZD P z ts x H K=z\/∃v,ZD P z ts x H K=K v H/\OpP P T m o H v:=by
 have fin:∀ {v:Value} {L:List TypeId},ts=L->(∀(G:Gh) (a:Act) (w:World),HR G H.h w->(Builtin.cap_ ⟨L⟩ o.type #[den G x]).run P w=.ok (den G v) w)->K v H=z\/∃v',K v H=K v' H/\OpP P T m o H v':=λ{v L} hL h=>by
  refine .inr ⟨v,I,OpP.mk λG a w ht hr=>?_⟩;rw[QL ho hc hts hxs a,Yw ht hok,hx,hL];simp only[builtin,Bj,E4,Ba,h G a w hr,An,Bh]
 unfold ZD;split
 ·rename_i t L l cp;split
  ·rename_i h;obtain⟨e,he⟩:=Wq h;refine fin I λG a' w hr=>?_;simp[Builtin.cap_,At he,den,goInt]
  ·exact .inl I
 ·rename_i t L b off sp l cp;split
  ·rename_i cs ty op h hb;obtain⟨e,he⟩:=Wq h;have go:(op=0\/(sp.isSome||Nat.blt (Nat.add off (Nat.mul cp op)) cs.length)=true)->K (.int .i64 (.ofNat cp)) H=z\/∃v',K (.int .i64 (.ofNat cp)) H=K v' H/\OpP P T m o H v':=λhz=>by
    refine fin I λG a' w hr=>?_;obtain⟨pr,jk,_,hR⟩:=hr.row hb;have:=RY (c:=cp) (o:=off) (sp:=sp) hR hz;simp[Builtin.cap_,At he,den,goInt,this]
   split
   ·exact go (.inl I)
   ·rename_i hz;exact go (.inr hz)
   ·exact .inl I
  ·exact .inl I
 ·exact .inl I
end
section
variable {P:Program} {T:Tr Value} {m:Nat} {o:Oper} {H:CH} {β:Type} {z:β}
theorem On {b:Bk} {K:Nat->CH->β}:Q4 z b H K=z\/∃h',Q4 z b H K=K H.n ⟨h',H.n+1⟩/\∀j,h'.get j=if j=H.n then some b else H.h.get j:=by
 unfold Q4;rcases Tr.put_spec z b H.h H.n (λh=>K H.n ⟨h,Nat.succ H.n⟩) with h|⟨h',h,h2⟩
 ·exact .inl h
 ·exact .inr ⟨h',h,h2⟩
theorem OpS.alloc {b:Bk} {h':Tr Bk} {v:Value} (hh:∀j,h'.get j=if j=H.n then some b else H.h.get j)
  (hrun:∀(al:Nat->Prop) (G0:Gh) (a:Act) (w:World),TS al G0 T m a->HS al G0 H w->∃(g:GI) (w':World) (u:Value),Re P o a w u w'/\(∀j,j<w.heap.size->w'.heap[j]? =w.heap[j]?)/\w.heap.size<=w'.heap.size/\w'.os=w.os/\w'.tape=w.tape/\w'.output=w.output/\
   (Lb b=true->w.heap.size<=g.b)/\∀G,Ag al G0 G->G H.n=g->(Lb b=true->BR G H.n w' b)/\u=den G v):OpS P T m o H v ⟨h',H.n+1⟩:=by
 intro al G0 a w ht hs;obtain⟨g,w',u,h1,h2,h3,h4,h5,h6,h7,h8⟩:=hrun al G0 a w ht hs;have hA:=HS.alloc g hs hh (λG hG hn hl=>(h8 G hG hn).1 hl) h2 h7 h3 h4 h5 h6;refine⟨_,_,w',hA.2,hA.1,u,h1,λG hG=>?_⟩;have hne:∀k,al k->k≠H.n:=λk hk=>Km (hs.lt k hk);refine(h8 G (λk hk=>?_) ?_).2
 ·have:=hG k (.inl hk);rw[this];exact Ar (hne k hk)
 ·rw[hG H.n (.inr I)];exact Bi I
theorem OpD.w {h':Tr Bk} {v:Value} (hh:∀j,h'.get j=if j=H.n then some Bk.d else H.h.get j) (h:OpD P T m o H v):OpW P T m o H v ⟨h',H.n+1⟩:=
 ⟨OpS.alloc hh λal G0 a w ht hs=>by
  obtain⟨g,u,h1,h2⟩:=h G0 a w (ht G0 .rfl) (hs.hr G0 .rfl);exact⟨g,w,u,h1,λ_ _=>I,Ak _,I,I,I,λh=>(nomatch h),λG _ hn=>⟨λh=>(nomatch h),h2 G hn⟩⟩,λ_ h=>absurd h (Nat.succ_ne_self _),λ_ _=>h⟩
variable {t:TypeId}
theorem OpS.row {cs:List Value} {h':Tr Bk} {v:Value} (u:Nat->Value) (hh:∀j,h'.get j=if j=H.n then some (.c cs t 0) else H.h.get j)
  (hrun:∀(G:Gh) (a:Act) (w:World),TR G T m a.tmps->HR G H.h w->(execOp a.eval o).run P w=.ok (.value (u w.heap.size)) (w.alloc (.cells ⟨cs.map (den G)⟩ t)))
  (hv:∀(G:Gh) (s:Nat),G H.n=⟨s,0,0,0,0⟩->u s=den G v):OpS P T m o H v ⟨h',H.n+1⟩:=by
 refine OpS.alloc hh λal G0 a w ht hs=>⟨⟨w.heap.size,0,0,0,0⟩,w.alloc (.cells ⟨cs.map (den G0)⟩ t),u w.heap.size,.inl (hrun G0 a w (ht G0 .rfl) (hs.hr G0 .rfl)),λj hj=>Gw w _ j hj,tqS,I,I,I,λ_=>Ak _,λG hG hn=>⟨λ_=>?_,hv G _ hn⟩⟩;refine⟨[],[],?_,⟨λ_=>⟨I,I,by rw[hn]⟩,λh=>absurd I h,by rw[hn];rfl⟩⟩;have h1:=hrun G0 a w (ht G0 .rfl) (hs.hr G0 .rfl);have h2:=hrun G a w (ht G hG) (hs.hr G hG);rw[h1] at h2;injection h2 with _ h3
 rw[hn,h3];simpa using E6 w (.cells ⟨cs.map (den G)⟩ t)
variable {K:Value->CH->β}
theorem Aeg (ho:o.op=.alloc t) {cs:List Value} (hz:Qq P t=some cs):Q4 z (.c cs t 0) H (λk H=>K (.pointer (some ⟨k,0,none⟩)) H)=z\/
  ∃v H',Q4 z (.c cs t 0) H (λk H=>K (.pointer (some ⟨k,0,none⟩)) H)=K v H'/\OpS P T m o H v H':=by
 obtain⟨i,v0,hi,hzv,hcs,hlen,_,hzd⟩:=Ov hz;have hc0:v0.cells=⟨cs⟩:=by rw[<-hcs]
 rcases On (z:=z) (b:=.c cs t 0) (H:=H) (K:=λk H=>K (.pointer (some ⟨k,0,none⟩)) H) with h|⟨h',h,hh⟩
 ·exact .inl h
 ·refine .inr ⟨_,_,h,OpS.row (λs=>.pointer (some ⟨s,0,none⟩)) hh (λG a w ht hr=>?_) λG s hs=>?_⟩
  ·rw[hzd G];simp[execOp,ho,Instr.alloc,zeroValue,typeInfo,hi,hzv,newVar,newRow,hc0]
  ·simp[den,dA,hs]
theorem Akt {x:Operand} (ho:o.op=.box t x) (hx:C3 x=true):Q4 z (.c (C2 (evT T x).cells) t 0) H (λk H=>K (.pointer (some ⟨k,0,none⟩)) H)=z\/
  ∃v H',Q4 z (.c (C2 (evT T x).cells) t 0) H (λk H=>K (.pointer (some ⟨k,0,none⟩)) H)=K v H'/\OpS P T m o H v H':=by
 rcases On (z:=z) (b:=.c (C2 (evT T x).cells) t 0) (H:=H) (K:=λk H=>K (.pointer (some ⟨k,0,none⟩)) H) with h|⟨h',h,hh⟩
 ·exact .inl h
 ·refine .inr ⟨_,_,h,OpS.row (λs=>.pointer (some ⟨s,0,none⟩)) hh (λG a w ht hr=>?_) λG s hs=>?_⟩
  ·have e:=Cz ht hx;have e2:(a.eval x).cells=⟨(C2 (evT T x).cells).map (den G)⟩:=by
    apply Cn;rw[e,Uu,J0]
   simp[execOp,ho,Instr.box,newVar,newRow,e2]
  ·simp[den,dA,hs]
theorem Acj (zs:List Value) (n:Nat):(Ge zs n).length=n*zs.length:=by simp[Ge]
theorem Ox {zs:List Value} {G:Gh} (h:zs.map (den G)=zs) (n:Nat):(Ge zs n).map (den G)=Ge zs n:=by
 simp[Ge,List.map_flatten,h]
theorem Tp (zs:Array Value) (s:Nat) (hs:zs.size=s):∀n:Nat,((Array.range (n*s)).map (zs[· % zs.size]!)).toList=Ge zs.toList n
 |0=>by simp[Ge]
 |n+1=>by
  have ih:=Tp zs s hs n;simp only[Di,Xb] at ih⊢;rw[Id,List.range_add,D6,ih];unfold Ge;rw[List.replicate_succ',List.flatten_append]
  congr 1
  simp only[List.flatten_cons,List.flatten_nil,Bu,Fp];apply List.ext_getElem
  ·simp[hs]
  ·intro i h1 h2;simp only[Cr,M0] at h1;simp only[List.getElem_map,List.getElem_range,Function.comp_apply,hs];rw[Nat.mul_comm,Nat.mul_add_mod,Nat.mod_eq_of_lt h1];simp[hs,h1]
theorem Qj (zs:Array Value) (n:Nat):(Builtin.zeroCells zs n).toList=Ge zs.toList n:=Tp zs zs.size I n
theorem NJ {l:Nat} {ps:Array (Nat×Operand)} (ho:o.op=.buildSlice t l ps) (hok:∀p∈ps.toList,C3 p.2=true):FM P z T t l ps.toList H K=z\/
  ∃v H',FM P z T t l ps.toList H K=K v H'/\OpS P T m o H v H':=by
 unfold FM;split
 ·rename_i p hp;split
  ·rename_i zs sz hz hb hsz;obtain⟨he,inf,hinf,hsz'⟩:=Xv hp;obtain⟨i,v0,hi,hzv,hcs,hlen,_,hzd⟩:=Ov hz;rw[hinf] at hi;cases hi;have hs1:inf.size=sz+1:=hsz'.trans hsz;rcases W2 (z:=z) (m:=m) (T:=T) (sz:=sz) ps.toList (Ge zs l) (λcs=>Q4 z (.c cs p.1 0) H λk H=>K (.slice (some ⟨k,0,none⟩) l l) H) hok with h|⟨ds,h,hdl,h4⟩
   ·exact .inl h
   ·rcases On (z:=z) (b:=.c ds p.1 0) (H:=H) (K:=λk H=>K (.slice (some ⟨k,0,none⟩) l l) H) with h2|⟨h',h2,hh⟩
    ·exact .inl (h.trans h2)
    ·rcases Oe l with hl0|hl0
     ·subst hl0;refine .inr ⟨_,_,h.trans h2,OpS.row (λs=>.slice (some ⟨s,0,none⟩) 0 0) hh (λG a w ht hr=>?_) λG s hs=>?_⟩
      ·have hf:=h4 G a ht;have hd0:ds=[]:=E0 (by rw[hdl];simp[Ge]);subst hd0;simp only[Ge,List.replicate_zero,List.flatten_nil,E4] at hf;have hps:(ps.map λx=>(x.1,a.eval x.2)).toList=ps.toList.map λp=>(p.1,a.eval p.2):=by simp
       have e0:(Array.range 0)=(#[]:Array Nat):=I;simp[execOp,ho,Instr.buildSlice,At he,sizeOf,typeInfo,hinf,newRow,hs1,e0,hf]
      ·simp[den,dA,ext,hs]
     ·refine .inr ⟨_,_,h.trans h2,OpS.row (λs=>.slice (some ⟨s,0,none⟩) l l) hh (λG a w ht hr=>?_) λG s hs=>?_⟩
      ·have hf:=h4 G a ht;rw[Ox (hzd G)] at hf;have hc0:v0.cells.size=inf.size:=by rw[<-hlen,<-hcs];simp
       have hz2:((Array.range (l*inf.size)).map (v0.cells[· % v0.cells.size]!))=(Ge zs l).toArray:=by
        apply Cn;rw[Tp v0.cells inf.size hc0 l,hcs]
       have hb2:l*inf.size<=2 ^ 24:=by
        have:=Cy hb;rw[hsz'];exact this
       have:=run_buildSlice (P:=P) w t p.1 l (ps.map λ(i,x)=>(i,a.eval x)) ⟨ds.map (den G)⟩ inf v0 he hinf hzv tqO (by rw[hs1];exact Nat.ne_of_gt (Ws hl0 (Nat.succ_pos _))) (by
        rw[hz2,Di,hs1];exact hf)
       simp[execOp,ho,this]
      ·simp[den,dA,ext,hs]
  ·exact .inl I
 ·exact .inl I
theorem WP (ho:o.op=.makeMap t none):Q4 z (.o (.map #[] 0)) H (λk H=>K (.map (some k)) H)=z\/
  ∃v H',Q4 z (.o (.map #[] 0)) H (λk H=>K (.map (some k)) H)=K v H'/\OpS P T m o H v H':=by
 rcases On (z:=z) (b:=.o (.map #[] 0)) (H:=H) (K:=λk H=>K (.map (some k)) H) with h|⟨h',h,hh⟩
 ·exact .inl h
 ·refine .inr ⟨_,_,h,OpS.alloc hh λal G0 a w ht hs=>⟨⟨w.heap.size,0,0,0,0⟩,w.alloc (.map #[] 0),.map (some w.heap.size),.inl ?_,λj hj=>Gw w _ j hj,tqS,I,I,I,λ_=>Ak _,λG hG hn=>⟨λ_=>?_,by simp[den,hn]⟩⟩⟩
  ·simp[execOp,ho,Instr.makeMap]
  ·show (w.alloc (.map #[] 0)).heap[(G H.n).b]? =_
   rw[hn];exact E6 w _
theorem Aft {y:Nat} (h:tyY P t=some y) {i:TypeInfo} (hi:P.info? t=some i):i.bytes=y:=by
 unfold tyY at h;rw[hi] at h;cases h;rfl
theorem QC {l c:Operand} (ho:o.op=.makeSlice t l c) (hl:C3 l=true) (hc:C3 c=true):FX P z t (evT T l) (evT T c) H K=z\/
  ∃v H',FX P z t (evT T l) (evT T c) H K=K v H'/\OpS P T m o H v H':=by
 unfold FX;split
 ·rename_i kl l' kc c' hu hv;split
  ·rename_i p hp;split
   ·rename_i zs y sz hz hy hb hsz;split
    ·exact .inl I
    ·rename_i hy2;obtain⟨he,inf,hinf,hsz'⟩:=Xv hp;obtain⟨i,v0,hi,hzv,hcs,hlen,_,hzd⟩:=Ov hz;rw[hinf] at hi;cases hi;have hby:=Aft hy hinf;simp only[Ad,G6] at hb;have hy2:=Cy hy2;rcases On (z:=z) (b:=.c (Ge zs c') p.1 0) (H:=H) (K:=λk H=>K (.slice (some ⟨k,0,none⟩) l' c') H) with h2|⟨h',h2,hh⟩
     ·exact .inl h2
     ·refine .inr ⟨_,_,h2,OpS.row (λs=>.slice (some ⟨s,0,none⟩) l' c') hh (λG a w ht hr=>?_) λG s hs=>?_⟩
      ·have e1:=Cz ht hl;have e2:=Cz ht hc;rw[hu] at e1;rw[hv] at e2;simp only[Qu] at e1 e2;have hm:inf.bytes*c'<=65536*65536:=by rw[hby];exact Se hy2 hb.2
       have hm2:(inf.bytes:Int)*(c':Int)<=281474976710656:=by
        have:((inf.bytes*c':Nat):Int)<=281474976710656:=by omega
        rwa[Q6] at this
       have hrun:=run_make (P:=P) w t p.1 inf v0 he hinf hzv kl kc (l':Int) (c':Int) (Hv _) tqO hm2 tqO;have hc0:v0.cells.size=inf.size:=by rw[<-hlen,<-hcs];simp
       have hz2:madeCells v0.cells ((c':Int).toNat*inf.size)=(Ge zs c').toArray:=by
        apply Cn;rw[Ej];exact(Tp v0.cells inf.size hc0 c').trans (by rw[hcs])
       rw[hz2] at hrun;simp only[Ej] at hrun;rw[Ox (hzd G)];simp only[execOp,ho,e1,e2,U3,Ba,hrun,An,Bh]
      ·simp[den,dA,ext,hs]
   ·exact .inl I
  ·exact .inl I
 ·exact .inl I
end
end Go.Proofs.YtjofafbkkpdgbaaGreat.Ck
