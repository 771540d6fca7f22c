/- A part of the proof of LockOpens: rules and contracts. No condition. -/
import Derived.Test.YtjofafbkkpdgbaaGreatPnah
set_option maxRecDepth 100000
set_option maxHeartbeats 4000000
set_option linter.all false
namespace Go.Proofs.YtjofafbkkpdgbaaGreat.Ck
open Go Go.RowKit Go.Shelf
def DK (P:Program) (T:Tr Value) (m:Nat) (o:Oper) (k:Nat) (b:Bk) (v:Value):Prop:=∃(u:Nat->Value) (ob:Gh->Obj),
 (∀(G:Gh) (a:Act) (w:World),TR G T m a.tmps->(execOp a.eval o).run P w=.ok (.value (u w.heap.size)) (w.alloc (ob G)))/\(∀(G:Gh) s,G k=⟨s,0,0,0,0⟩->u s=den G v)/\
 ∀(G:Gh) (w:World),G k=⟨w.heap.size,0,0,0,0⟩->BR G k (w.alloc (ob G)) b
def YX (P:Program) (T:Tr Value) (m:Nat) (o:Oper) (H:CH) (v:Value) (H':CH):Prop:=
 ∀(r:Option Nat) (nn:Nat) al G0 (a a0:Act) (w:World) (K':Act->World->Prop) (Q:Exit->Act->World->Prop),(∀x∈o.op.operands,a.eval x=a0.eval x)->TS al G0 T m a0->HS al G0 H w->
  (∀al' G' w' u,To al G0 H w al' G' H' w'->HS al' G' H' w'->(∀G,Ag al' G' G->u=den G v)->K' (a.put o.dst u) w')->o.wpIn (feR r) nn P a w K' Q
structure Cl (ops:Array Oper) (an:Nat):Prop where
 trans:∀i k l,i<ops.size->D7 an k i=true->D7 an l k=true->D7 an l i=true
 snd:∀(i:Nat) (o:Oper) (k:Nat),ops[i]? =some o->D7 an k i=true->∃e∈o.after,Region.binds .any e=true/\(e.on=k\/D7 an k e.on=true)
 slot:∀(i k:Nat) (oi ok:Oper) (d:Nat),ops[i]? =some oi->ops[k]? =some ok->i≠k->oi.dst=some d->ok.dst≠some d/\(D7 an i k=true\/D7 an k i=true\/Operand.tmp d ∉ ok.op.operands)
 grd:∀(i:Nat) (o:Oper) (j:Nat) (b:Bool),ops[i]? =some o->o.guard=some (j,b)->D7 an j i=true
 ds:∀(i:Nat) (o:Oper),ops[i]? =some o->Zk o=true
section
variable (P:Program) (ops:Array Oper) (an n0:Nat) (T0:Tr Value) (m0:Nat) (val:Nat->Value) (blk:Nat->Option Bk) (rk:Nat->Nat) (hc:Nat->CH)
def isE (i:Nat):Prop:=∃o:Oper,ops[i]? =some o/\Jp o=true
def bas (j i:Nat):Prop:=∃e,isE ops e/\rk e<j/\(i=e\/D7 an i e=true)
def HX (i:Nat) (Hp:CH):Prop:=Hp.n=(hc (rk i)).n/\(∀k b,D7 an k i=true->¬bas ops an rk (rk i) k->blk k=some b->Hp.h.get (n0+k)=some b)/\
 ∀k,(∀i',k=n0+i'->D7 an i' i=true->¬bas ops an rk (rk i) i'->blk i'=none)->Hp.h.get k=(hc (rk i)).h.get k
def Rst (T:Tr Value) (i:Nat) (o:Oper):Prop:=(∀t,Operand.tmp t ∉ o.op.operands->T.get t=none)/\∀t,Operand.tmp t∈o.op.operands->
 (∀(k:Nat) (ok:Oper),ops[k]? =some ok->ok.dst=some t->D7 an k i=true->(T.get t).getD undef=val k)/\((∀(k:Nat) (ok:Oper),ops[k]? =some ok->ok.dst=some t->D7 an k i=false)->(T.get t).getD undef=(T0.get t).getD undef)
def KO (v:Value) (b:Bool):Bool:=match v with
 | .bool c=>c == b
 |_=>false
def Wn (o:Oper) (b:Bool):Prop:=match o.guard with
 |none=>b=true
 |some (j,c)=>∃(oj:Oper) (d:Nat),ops[j]? =some oj/\oj.dst=some d/\b=KO (val j) c
def KdS (i:Nat) (o:Oper) (T:Tr Value):Prop:=match Zd o.op with
 | .q=>blk i=none/\OpP P T m0 o ⟨.lf,0⟩ (val i)
 | .l=>(blk i=none/\∀j,j<=rk i->(∀e,isE ops e->D7 an e i=true->rk e<j)->OpP P T m0 o (hc j) (val i))\/
  (blk i=some .d/\∀j,j<=rk i->(∀e,isE ops e->D7 an e i=true->rk e<j)->OpD P T m0 o ⟨(hc j).h,n0+i⟩ (val i))
 | .n=>∃b,blk i=some b/\DK P T m0 o (n0+i) b (val i)
 | .e=>blk i=none/\∃Hp,HX ops an n0 blk rk hc i Hp/\YX P T m0 o Hp (val i) (hc (rk i+1))
def One (i:Nat) (o:Oper):Prop:=(∀d,o.dst=some d->d<m0)/\∃b,Wn ops val o b/\(b=false->val i=undef/\blk i=none/\(Jp o=true->HX ops an n0 blk rk hc i (hc (rk i+1))))/\
 (b=true->∃T,Rst ops an T0 val T i o/\KdS P ops an n0 m0 val blk rk hc i o T)
structure Plan (M:Nat) (T1:Tr Value) (H1:CH):Prop where
 one:∀(i:Nat) (o:Oper),ops[i]? =some o->One P ops an n0 T0 m0 val blk rk hc i o
 ord:∀(i:Nat) (o:Oper) (e:Nat),ops[i]? =some o->isE ops e->i≠e->rk i<=rk e->D7 an i e=true
 top:∀e,isE ops e->rk e<M
 lev:∀j,j<M->∃e,isE ops e/\rk e=j
 slot1:∀(i:Nat) (o:Oper) (t:Nat),ops[i]? =some o->o.dst=some t->(T1.get t).getD undef=val i
 slot2:∀t,(∀(i:Nat) (o:Oper),ops[i]? =some o->o.dst≠some t)->(T1.get t).getD undef=(T0.get t).getD undef
 n1:H1.n=(hc M).n
 h1:∀(i:Nat) (b:Bk) (o:Oper),ops[i]? =some o->¬bas ops an rk M i->blk i=some b->H1.h.get (n0+i)=some b
 h2:∀k,(∀(i:Nat) (o:Oper),k=n0+i->ops[i]? =some o->¬bas ops an rk M i->blk i=none)->H1.h.get k=(hc M).h.get k
def xD (D:Nat->Prop) (j k:Nat):Prop:=n0<=k/\D (k- n0)/\¬bas ops an rk j (k- n0)/\(blk (k- n0)).isSome=true
def alD (al D:Nat->Prop) (j k:Nat):Prop:=al k\/xD ops an n0 blk rk D j k
open Classical in
noncomputable def gD (D:Nat->Prop) (j k:Nat):Option Bk:=if xD ops an n0 blk rk D j k then blk (k- n0) else(hc j).h.get k
structure Inv (M:Nat) (alI:Nat->Prop) (Gi:Gh) (gI:Hf) (nI:Nat) (wI:World) (a0:Act) (done:Nat->Bool) (j:Nat) (al:Nat->Prop) (G0:Gh) (a:Act) (w:World):Prop where
 ex:∀i,done i=true->∃o:Oper,ops[i]? =some o
 cl:∀i k,done i=true->D7 an k i=true->done k=true
 eff:∀e,isE ops e->(done e=true↔rk e<j)
 jM:j<=M
 nn:n0+ops.size<=(hc j).n
 fr:∀i,i<ops.size->¬bas ops an rk j i->¬al (n0+i)
 sz:a.tmps.size=m0
 df:a.defers=a0.defers
 old:∀t,(∀(k:Nat) (o:Oper),done k=true->ops[k]? =some o->o.dst≠some t)->a.tmps.getD t undef=a0.tmps.getD t undef
 st:∀D:Nat->Prop,(∀i,D i->done i=true)->(∀i,bas ops an rk j i->D i)->(∀i k,D i->D7 an k i=true->D k)->
  HSf (alD ops an n0 blk rk al D j) G0 (gD ops an n0 blk rk hc D j) (hc j).n w/\TF alI Gi gI nI wI (alD ops an n0 blk rk al D j) G0 (gD ops an n0 blk rk hc D j) (hc j).n w/\
  ∀(i:Nat) (o:Oper) (d:Nat),D i->ops[i]? =some o->o.dst=some d->∀G,Ag (alD ops an n0 blk rk al D j) G0 G->a.tmps.getD d undef=den G (val i)
end
open Classical in
noncomputable def Yi (m0:Nat) (o:Oper) (a:Act):Act:= {tmps:=Array.ofFn (n:=m0) λt=>if Operand.tmp t.1∈o.op.operands then a.tmps.getD t.1 undef else undef,defers:=[]}
variable {a:Act}
theorem EG {m0:Nat} {o:Oper} (hs:a.tmps.size=m0) (t:Nat):(Operand.tmp t∈o.op.operands->(Yi m0 o a).tmps.getD t undef=a.tmps.getD t undef)/\(Operand.tmp t ∉ o.op.operands->(Yi m0 o a).tmps.getD t undef=undef):=by
 unfold Yi;rw[Bp,Array.getElem?_ofFn];constructor
 ·intro h;split
  ·simp[*]
  ·rename_i hlt;rw[Bp,Tf tqO]
 ·intro h;split
  ·simp[*]
  ·rfl
theorem KW {m0:Nat} {o:Oper} (hs:a.tmps.size=m0):∀x∈o.op.operands,a.eval x=(Yi m0 o a).eval x:=λx hx=>by
 cases x with
 |tmp t=>exact((EG hs t).1 hx).symm
 |_=>rfl
theorem ZW {m0:Nat} {o:Oper} (hs:a.tmps.size=m0) (ho:Zk o=true):execOp a.eval o=execOp (Yi m0 o a).eval o:=
 execOp_congr o (λcs b e=>by unfold Zk at ho;rw[e] at ho;cases ho) (KW hs)
theorem Ak8 {d t:Nat} {u:Value} (hd:d<a.tmps.size):(a.put (some d) u).tmps.getD t undef=if t=d then u else a.tmps.getD t undef:=by
 simp only[Act.put,Bp];by_cases e:t=d
 ·subst e;simp[hd]
 ·rw[Ar e,Dz (Ut e)]
theorem LA {o:Option Nat} {t:Nat} {u:Value} (h:o≠some t):(a.put o u).tmps.getD t undef=a.tmps.getD t undef:=by
 cases o with
 |none=>rfl
 |some d=>
  have hd:d≠t:=λe=>h (by rw[e]);simp[Act.put,Bp,Dz hd]
theorem BM (a:Act) (o:Option Nat) (u:Value):(a.put o u).tmps.size=a.tmps.size/\(a.put o u).defers=a.defers:=by
 cases o<;>simp[Act.put]
section
variable {P:Program} {ops:Array Oper} {an n0:Nat} {T0:Tr Value} {m0:Nat} {val:Nat->Value} {blk:Nat->Option Bk} {rk:Nat->Nat} {hc:Nat->CH}
variable {M:Nat} {T1:Tr Value} {H1:CH} {alI:Nat->Prop} {Gi:Gh} {gI:Hf} {nI:Nat} {wI:World} {a0:Act} {done:Nat->Bool} {j:Nat} {al:Nat->Prop} {G0:Gh} {a:Act} {w:World}
def Ki (ops:Array Oper) (an:Nat) (rk:Nat->Nat) (j i k:Nat):Prop:=D7 an k i=true\/bas ops an rk j k
theorem JS (hcl:Cl ops an) {j i k:Nat} (h:bas ops an rk j i) (hk:D7 an k i=true):bas ops an rk j k:=by
 obtain⟨e,h1,h2,h3⟩:=h;refine⟨e,h1,h2,.inr ?_⟩;obtain⟨o,ho,_⟩:=h1;rcases h3 with rfl|h3
 ·exact hk
 ·exact hcl.trans e i k (B5.1 ho).1 h3 hk
structure Next (ops:Array Oper) (an:Nat) (rk:Nat->Nat) (done:Nat->Bool) (j i:Nat):Prop where
 nd:done i=false
 anc:∀k,D7 an k i=true->done k=true
 nb:¬bas ops an rk j i
 up:∀k,done k=true->D7 an i k=false
 cl:∀k l,Ki ops an rk j i k->D7 an l k=true->Ki ops an rk j i l
 dn:∀k,Ki ops an rk j i k->done k=true
 ni:¬Ki ops an rk j i i
theorem Inv.basd (h:Inv ops an n0 m0 val blk rk hc M alI Gi gI nI wI a0 done j al G0 a w):∀i,bas ops an rk j i->done i=true:=λi ⟨e,h1,h2,h3⟩=>by
 have hd:=(h.eff e h1).2 h2;rcases h3 with rfl|h3
 ·exact hd
 ·exact h.cl e i hd h3
theorem Inv.next (hcl:Cl ops an) (h:Inv ops an n0 m0 val blk rk hc M alI Gi gI nI wI a0 done j al G0 a w) {i:Nat} {o:Oper} (ho:ops[i]? =some o) (hd:done i=false) (hpr:∀e∈o.after,Region.binds .any e=true->done e.on=true):Next ops an rk done j i:=by
 have hanc:∀k,D7 an k i=true->done k=true:=λk hk=>by
  obtain⟨e,he,hb,h1⟩:=hcl.snd i o k ho hk;rcases h1 with rfl|h1
  ·exact hpr e he hb
  ·exact h.cl e.on k (hpr e he hb) h1
 have hdn:∀k,Ki ops an rk j i k->done k=true:=λk hk=>hk.elim (hanc k) (h.basd k);refine⟨hd,hanc,λhb=>?_,λk hk=>?_,λk l hk hl=>?_,hdn,λhi=>?_⟩
 ·have:=h.basd i hb;rw[hd] at this;cases this
 ·cases hx:D7 an i k with
  |false=>rfl
  |true=>
   have:=h.cl k i hk hx;rw[hd] at this;cases this
 ·rcases hk with hk|hk
  ·exact .inl (hcl.trans i k l (B5.1 ho).1 hk hl)
  ·exact .inr (JS hcl hk hl)
 ·have:=hdn i hi;rw[hd] at this;cases this
theorem Inv.ts (hcl:Cl ops an) (h:Inv ops an n0 m0 val blk rk hc M alI Gi gI nI wI a0 done j al G0 a w) (hI:∀G,Ag alI Gi G->TR G T0 m0 a0.tmps) {i:Nat} {o:Oper} (ho:ops[i]? =some o) (hx:Next ops an rk done j i) {T:Tr Value} (hT:Rst ops an T0 val T i o):
  TS (alD ops an n0 blk rk al (Ki ops an rk j i) j) G0 T m0 (Yi m0 o a):=by
 intro G hG;obtain⟨_,st2,st3⟩:=h.st (Ki ops an rk j i) hx.dn (λk hk=>.inr hk) hx.cl;refine⟨by simp[Yi],λt=>?_⟩;by_cases ht:Operand.tmp t∈o.op.operands
 ·rw[(EG h.sz t).1 ht];obtain⟨h1,h2⟩:=hT.2 t ht;by_cases hk:∃k ok,ops[k]? =some ok/\ok.dst=some t/\D7 an k i=true
  ·obtain⟨k,ok,e1,e2,e3⟩:=hk;rw[h1 k ok e1 e2 e3];exact st3 k ok t (.inl e3) e1 e2 G hG
  ·have hk':∀(k:Nat) (ok:Oper),ops[k]? =some ok->ok.dst=some t->D7 an k i=false:=λk ok e1 e2=>by
    cases e3:D7 an k i with
    |false=>rfl
    |true=>exact absurd ⟨k,ok,e1,e2,e3⟩ hk
   rw[h2 hk',h.old t λk ok hdk e1 e2=>?_]
   ·exact(hI G λk hk=>(hG k (st2.up k hk).1).trans (st2.up k hk).2).2 t
   ·have hne:k≠i:=λe=>by rw[e,hx.nd] at hdk;cases hdk
    rcases(hcl.slot k i ok o t e1 ho hne e2).2 with e3|e3|e3
    ·rw[hk' k ok e1 e2] at e3;cases e3
    ·rw[hx.up k hdk] at e3;cases e3
    ·exact e3 ht
 ·rw[(EG h.sz t).2 ht,hT.1 t ht];simp
def asB (v:Value):Option Bool:=match v with
 | .bool b=>some b
 |_=>none
theorem Aci {tm:Array Value} {v:Value} {G:Gh} {j d:Nat} {oj:Oper} (hj:ops[j]? =some oj) (hd:oj.dst=some d) (h1:tm.getD d undef=den G v):yielded ops tm j=asB v:=by
 unfold yielded;rw[hj,Ud,hd,Ud];rw[Bp] at h1;cases hx:tm[d]? with
 |none=>
  rw[hx] at h1;simp only[Option.getD_none] at h1;cases v<;>first|rfl|(exfalso;simp[undef] at h1)
 |some y=>
  rw[hx] at h1;simp only[Hz] at h1;subst h1;cases v with
  |pointer a=>cases a<;>rfl
  |slice a l c=>cases a<;>rfl
  |map r=>cases r<;>rfl
  |func fn f c=>obtain⟨f⟩:=f;obtain⟨c⟩:=c;rfl
  |tuple vs=>obtain⟨vs⟩:=vs;rfl
  |agg vs=>obtain⟨vs⟩:=vs;rfl
  |_=>rfl
theorem Inv.wanted (hcl:Cl ops an) (h:Inv ops an n0 m0 val blk rk hc M alI Gi gI nI wI a0 done j al G0 a w) {i:Nat} {o:Oper} (ho:ops[i]? =some o) (hx:Next ops an rk done j i) {b:Bool} (hb:Wn ops val o b):Region.wanted o (yielded ops a.tmps)=b:=by
 unfold Wn at hb;cases hg:o.guard with
 |none=>rw[hg] at hb;rw[hb];exact Tt hg _
 |some p=>
  obtain⟨k,c⟩:=p;rw[hg] at hb;obtain⟨oj,d,e1,e2,rfl⟩:=hb;have hk:=hcl.grd i o k c ho hg;obtain⟨_,_,st3⟩:=h.st (Ki ops an rk j i) hx.dn (λk hk=>.inr hk) hx.cl;have hy:=Aci e1 e2 (st3 k oj d (.inl hk) e1 e2 G0 .rfl);cases hv:val k with
  |bool b'=>
   rw[hv] at hy;rw[Ng hg hy];rfl
  |_=>rw[hv] at hy;simp[Region.wanted,hg,hy,KO,asB]
end
section
variable {P:Program} {ops:Array Oper} {an n0:Nat} {T0:Tr Value} {m0:Nat} {val:Nat->Value} {blk:Nat->Option Bk} {rk:Nat->Nat} {hc:Nat->CH}
variable {M:Nat} {T1:Tr Value} {H1:CH} {alI:Nat->Prop} {Gi:Gh} {gI:Hf} {nI:Nat} {wI:World} {a0:Act} {done:Nat->Bool} {j:Nat} {al:Nat->Prop} {G0:Gh} {a:Act} {w:World}
variable {i k:Nat}
theorem GF:upd done i k=true↔k=i\/done k=true:=by
 by_cases e:k=i
 ·subst e;simp[JJ]
 ·rw[MH e];simp[e]
variable {D D':Nat->Prop}
theorem JN (h:∀i,(blk i).isSome=true->(D i↔D' i)) (j k:Nat):xD ops an n0 blk rk D j k↔xD ops an n0 blk rk D' j k:=by
 unfold xD;constructor
 ·rintro ⟨h1,h2,h3,h4⟩;exact⟨h1,(h _ h4).1 h2,h3,h4⟩
 ·rintro ⟨h1,h2,h3,h4⟩;exact⟨h1,(h _ h4).2 h2,h3,h4⟩
theorem NZ (h:∀i,(blk i).isSome=true->(D i↔D' i)) (al:Nat->Prop) (j:Nat):alD ops an n0 blk rk al D j=alD ops an n0 blk rk al D' j:=by
 funext k
 unfold alD;rw[propext (JN h j k)]
theorem SF (h:∀i,(blk i).isSome=true->(D i↔D' i)) (j:Nat):gD ops an n0 blk rk hc D j=gD ops an n0 blk rk hc D' j:=by
 funext k
 unfold gD;by_cases hx:xD ops an n0 blk rk D j k
 ·rw[Bi hx,Bi ((JN h j k).1 hx)]
 ·rw[Ar hx,Ar λh'=>hx ((JN h j k).2 h')]
theorem Vk {j:Nat} (h:xD ops an n0 blk rk D j k):gD ops an n0 blk rk hc D j k=blk (k- n0):=Bi h
theorem Pp {j:Nat} (h:¬xD ops an n0 blk rk D j k):gD ops an n0 blk rk hc D j k=(hc j).h.get k:=Ar h
theorem GL {j:Nat}:xD ops an n0 blk rk D j (n0+i)↔D i/\¬bas ops an rk j i/\(blk i).isSome=true:=by
 unfold xD;rw[Lx];simp
theorem Y1 (h:∀i,D i->D' i) {j:Nat} (hx:xD ops an n0 blk rk D j k):xD ops an n0 blk rk D' j k:=⟨hx.1,h _ hx.2.1,hx.2.2⟩
def wo (D:Nat->Prop) (i k:Nat):Prop:=D k/\k≠i
theorem VP (_h:Inv ops an n0 m0 val blk rk hc M alI Gi gI nI wI a0 done j al G0 a w) (hx:Next ops an rk done j i) (h1:∀k,D k->upd done i k=true) (h2:∀k,bas ops an rk j k->D k) (h3:∀k l,D k->D7 an l k=true->D l):
  (∀k,wo D i k->done k=true)/\(∀k,bas ops an rk j k->wo D i k)/\(∀k l,wo D i k->D7 an l k=true->wo D i l)/\(D i->∀k,Ki ops an rk j i k->wo D i k):=by
 have hd:∀k,wo D i k->done k=true:=λk hk=>(GF.1 (h1 k hk.1)).resolve_left hk.2;refine⟨hd,λk hk=>⟨h2 k hk,λe=>hx.nb (e ▸ hk)⟩,λk l hk hl=>⟨h3 k l hk.1 hl,λe=>?_⟩,λhi k hk=>⟨?_,λe=>hx.ni (e ▸ hk)⟩⟩
 ·subst e;have:=hx.up k (hd k hk);rw[hl] at this;cases this
 ·rcases hk with hk|hk
  ·exact h3 i k hi hk
  ·exact h2 k hk
variable {o:Oper}
theorem KB (h:Inv ops an n0 m0 val blk rk hc M alI Gi gI nI wI a0 done j al G0 a w) (ho:ops[i]? =some o):∀k,upd done i k=true->∃o:Oper,ops[k]? =some o:=λk hk=>by
 rcases GF.1 hk with rfl|hk
 ·exact⟨o,ho⟩
 ·exact h.ex k hk
theorem RJ (h:Inv ops an n0 m0 val blk rk hc M alI Gi gI nI wI a0 done j al G0 a w) (hx:Next ops an rk done j i):∀k l,upd done i k=true->D7 an l k=true->upd done i l=true:=λk l hk hl=>by
 rcases GF.1 hk with rfl|hk
 ·exact NW (hx.anc l hl)
 ·exact NW (h.cl k l hk hl)
theorem NH (h:Inv ops an n0 m0 val blk rk hc M alI Gi gI nI wI a0 done j al G0 a w) (ho:ops[i]? =some o) (u:Value):∀t,(∀(k:Nat) (o':Oper),upd done i k=true->ops[k]? =some o'->o'.dst≠some t)->(a.put o.dst u).tmps.getD t undef=a0.tmps.getD t undef:=λt ht=>by
 rw[LA (ht i o (JJ done i) ho)];exact h.old t λk o' hk=>ht k o' (NW hk)
variable {u:Value}
theorem CX (hcl:Cl ops an) {ok:Oper} {d:Nat} (ho:ops[i]? =some o) (hk:ops[k]? =some ok) (hne:k≠i) (hd:ok.dst=some d):(a.put o.dst u).tmps.getD d undef=a.tmps.getD d undef:=
 LA (hcl.slot k i ok o d hk ho hne hd).1
theorem JD {d:Nat} (hsz:a.tmps.size=m0) (hd:o.dst=some d) (hm:∀d,o.dst=some d->d<m0):(a.put o.dst u).tmps.getD d undef=u:=by
 rw[hd,Ak8 (by rw[hsz];exact hm d hd),Bi I]
theorem Inv.quiet (hcl:Cl ops an) (h:Inv ops an n0 m0 val blk rk hc M alI Gi gI nI wI a0 done j al G0 a w) (ho:ops[i]? =some o) (hx:Next ops an rk done j i) (hE:Jp o=false) (hb:blk i=none) (hm:∀d,o.dst=some d->d<m0)
  (hu:∀G,Ag (alD ops an n0 blk rk al (Ki ops an rk j i) j) G0 G->u=den G (val i)):Inv ops an n0 m0 val blk rk hc M alI Gi gI nI wI a0 (upd done i) j al G0 (a.put o.dst u) w:=by
 refine⟨KB h ho,RJ h hx,λe he=>?_,h.jM,h.nn,h.fr,(BM a o.dst u).1.trans h.sz,(BM a o.dst u).2.trans h.df,NH h ho u,λD h1 h2 h3=>?_⟩
 ·have hne:e≠i:=λe'=>by
   obtain⟨oe,e1,e2⟩:=he;rw[e',ho] at e1;cases e1;rw[hE] at e2;cases e2
  rw[MH hne];exact h.eff e he
 ·obtain⟨w1,w2,w3,w4⟩:=VP h hx h1 h2 h3;obtain⟨s1,s2,s3⟩:=h.st (wo D i) w1 w2 w3;have hc0:∀k,(blk k).isSome=true->(D k↔wo D i k):=λk hk=>⟨λhd=>⟨hd,λe=>by rw[e,hb] at hk;cases hk⟩,λhd=>hd.1⟩;rw[NZ hc0,SF hc0];refine⟨s1,s2,λk ok d hk e1 e2 G hG=>?_⟩;by_cases e:k=i
  ·subst e;rw[ho] at e1;cases e1;rw[JD h.sz e2 hm];exact hu G λl hl=>hG l (hl.imp id (Y1 (w4 hk)))
  ·rw[CX hcl ho e1 e e2];exact s3 k ok d ⟨hk,e⟩ e1 e2 G hG
variable {w':World}
theorem Inv.new (hcl:Cl ops an) (h:Inv ops an n0 m0 val blk rk hc M alI Gi gI nI wI a0 done j al G0 a w) (hnI:nI<=n0) (ho:ops[i]? =some o) (hx:Next ops an rk done j i) (hE:Jp o=false) {b:Bk} (hb:blk i=some b) (hm:∀d,o.dst=some d->d<m0)
  {g:GI} (hold:∀j,j<w.heap.size->w'.heap[j]? =w.heap[j]?) (hsz:w.heap.size<=w'.heap.size) (e1:w'.os=w.os) (e2:w'.tape=w.tape) (e3:w'.output=w.output)
  (hnew:Lb b=true->w.heap.size<=g.b) (hbr:Lb b=true->∀G,Ag (alD ops an n0 blk rk al (Ki ops an rk j i) j) G0 G->G (n0+i)=g->BR G (n0+i) w' b)
  (hu:∀G,Ag (alD ops an n0 blk rk al (Ki ops an rk j i) j) G0 G->G (n0+i)=g->u=den G (val i)):Inv ops an n0 m0 val blk rk hc M alI Gi gI nI wI a0 (upd done i) j al (λk=>if k=n0+i then g else G0 k) (a.put o.dst u) w':=by
 have hi:i<ops.size:=(B5.1 ho).1;refine⟨KB h ho,RJ h hx,λe he=>?_,h.jM,h.nn,h.fr,(BM a o.dst _).1.trans h.sz,(BM a o.dst _).2.trans h.df,NH h ho _,λD h4 h5 h6=>?_⟩
 ·have hne:e≠i:=λe'=>by
   obtain⟨oe,e1,e2⟩:=he;rw[e',ho] at e1;cases e1;rw[hE] at e2;cases e2
  rw[MH hne];exact h.eff e he
 ·obtain⟨w1,w2,w3,w4⟩:=VP h hx h4 h5 h6;obtain⟨s1,s2,s3⟩:=h.st (wo D i) w1 w2 w3;have hnal:¬alD ops an n0 blk rk al (wo D i) j (n0+i):=λhc=>by
   rcases hc with hc|hc
   ·exact h.fr i hi hx.nb hc
   ·exact(GL.1 hc).1.2 I
  have hne:∀k,alD ops an n0 blk rk al (wo D i) j k->k≠n0+i:=λk hk e=>hnal (e ▸ hk);by_cases hDi:D i
  ·have hal:alD ops an n0 blk rk al D j=λk=>alD ops an n0 blk rk al (wo D i) j k\/k=n0+i:=by
    funext k
    apply propext;constructor
    ·rintro (hk|hk)
     ·exact .inl (.inl hk)
     ·by_cases e:k- n0=i
      ·exact .inr (by have:=hk.1;omega)
      ·exact .inl (.inr ⟨hk.1,⟨hk.2.1,e⟩,hk.2.2⟩)
    ·rintro (hk|rfl)
     ·exact hk.imp id (Y1 λ_ h=>h.1)
     ·exact .inr (GL.2 ⟨hDi,hx.nb,by rw[hb];rfl⟩)
   have hg:∀k,gD ops an n0 blk rk hc D j k=if k=n0+i then some b else gD ops an n0 blk rk hc (wo D i) j k:=λk=>by
    by_cases e:k=n0+i
    ·subst e;rw[Bi I,Vk (GL.2 ⟨hDi,hx.nb,by rw[hb];rfl⟩),Lx,hb]
    ·rw[Ar e];by_cases hk:xD ops an n0 blk rk D j k
     ·have hk':xD ops an n0 blk rk (wo D i) j k:=⟨hk.1,⟨hk.2.1,λe'=>e (by have:=hk.1;omega)⟩,hk.2.2⟩;rw[Vk hk,Vk hk']
     ·rw[Pp hk,Pp λhk'=>hk (Y1 (λ_ h=>h.1) hk')]
   have mono:∀G,Ag (alD ops an n0 blk rk al (wo D i) j) G0 G->Ag (alD ops an n0 blk rk al (Ki ops an rk j i) j) G0 G:=λG hG k hk=>hG k (hk.imp id (Y1 (w4 hDi)));rw[hal];refine⟨HSf.alloc (b:=b) s1 hnal (Aw (Nat.add_lt_add_left hi n0) h.nn) hg (λ_=>I) (λhl G hG=>hbr hl G (mono G hG)) hold hnew,TF.alloc (b:=b) s2 s1 hnal (Bf hnI (Nat.le_add_right _ _)) hg (λ_=>I) hold hnew hsz e1 e2 e3,λk ok d hk e1 e2 G hG=>?_⟩
   ·by_cases e:k=i
    ·subst e;rw[ho] at e1;cases e1;rw[JD h.sz e2 hm];exact hu G (mono G λl hl=>(hG l (.inl hl)).trans (Ar (hne l hl))) ((hG (n0+k) (.inr I)).trans (Bi I))
    ·rw[CX hcl ho e1 e e2];exact s3 k ok d ⟨hk,e⟩ e1 e2 G λl hl=>(hG l (.inl hl)).trans (Ar (hne l hl))
  ·have hc0:∀k,(blk k).isSome=true->(D k↔wo D i k):=λk _=>⟨λhd=>⟨hd,λe=>hDi (e ▸ hd)⟩,λhd=>hd.1⟩;rw[NZ hc0,SF hc0];refine⟨s1.keep (λk hk=>Ar (hne k hk)) hold,s2.kept s1 (λk hk=>Ar (hne k hk)) hold hsz e1 e2 e3,λk ok d hk e1 e2 G hG=>?_⟩;have e:k≠i:=λe=>hDi (e ▸ hk);rw[CX hcl ho e1 e e2];exact s3 k ok d ⟨hk,e⟩ e1 e2 G λl hl=>(hG l hl).trans (Ar (hne l hl))
open Classical in
theorem Inv.did (hcl:Cl ops an) (h:Inv ops an n0 m0 val blk rk hc M alI Gi gI nI wI a0 done j al G0 a w) (ho:ops[i]? =some o) (hx:Next ops an rk done j i) (hE:Jp o=true) (hb:blk i=none) (hm:∀d,o.dst=some d->d<m0) (hrk:rk i=j) (hjM:j<M)
  (huq:∀e,isE ops e->rk e=j->e=i) {al1:Nat->Prop} {G1:Gh} (k1:HSf al1 G1 (hc (j+1)).h.get (hc (j+1)).n w')
  (k2:TF (alD ops an n0 blk rk al (Ki ops an rk j i) j) G0 (gD ops an n0 blk rk hc (Ki ops an rk j i) j) (hc j).n w al1 G1 (hc (j+1)).h.get (hc (j+1)).n w')
  (hu:∀G,Ag al1 G1 G->u=den G (val i)):Inv ops an n0 m0 val blk rk hc M alI Gi gI nI wI a0 (upd done i) (j+1) al1 (λk=>if al1 k then G1 k else G0 k) (a.put o.dst u) w':=by
 have hEi:isE ops i:=⟨o,ho,hE⟩;have hbas:∀k,bas ops an rk (j+1) k↔bas ops an rk j k\/k=i\/D7 an k i=true:=λk=>by
  constructor
  ·rintro ⟨e,e1,e2,e3⟩;by_cases e4:rk e=j
   ·have:=huq e e1 e4;subst this;exact .inr e3
   ·exact .inl ⟨e,e1,tqO,e3⟩
  ·rintro (⟨e,e1,e2,e3⟩|hk)
   ·exact⟨e,e1,tqO,e3⟩
   ·exact⟨i,hEi,tqO,hk⟩
 have fr1:∀k,k<ops.size->¬bas ops an rk (j+1) k->¬al1 (n0+k):=λk hk hnb hal=>by
  have hk2:n0+k<(hc j).n:=Aw (Nat.add_lt_add_left hk n0) h.nn;rcases k2.back _ hk2 hal with h1|h1
  ·exact h.fr k hk (λh2=>hnb ((hbas k).2 (.inl h2))) h1
  ·obtain⟨h2,h3,_⟩:=GL.1 h1;rcases h2 with h2|h2
   ·exact hnb ((hbas k).2 (.inr (.inr h2)))
   ·exact h3 h2
 refine⟨KB h ho,RJ h hx,λe he=>?_,hjM,Bf h.nn k2.le,fr1,(BM a o.dst u).1.trans h.sz,(BM a o.dst u).2.trans h.df,NH h ho u,λD h1 h2 h3=>?_⟩
 ·rw[GF,h.eff e he];constructor
  ·rintro (rfl|h1)
   ·omega
   ·omega
  ·intro h1;by_cases e4:rk e=j
   ·exact .inl (huq e he e4)
   ·exact .inr tqO
 ·have h2':∀k,bas ops an rk j k->D k:=λk hk=>h2 k ((hbas k).2 (.inl hk));have hDi:D i:=h2 i ((hbas i).2 (.inr (.inl I)));obtain⟨w1,w2,w3,w4⟩:=VP h hx h1 h2' h3;have w4:=w4 hDi;obtain⟨s1,s2,s3⟩:=h.st (wo D i) w1 w2 w3;obtain⟨n1,n2,n3⟩:=h.st (Ki ops an rk j i) hx.dn (λk hk=>.inr hk) hx.cl;have kept:∀(E:Nat->Prop),(∀k,E k->done k=true)->∀k,xD ops an n0 blk rk E j k->¬al k:=λE hE' k hk hal=>by
   obtain⟨oe,e1⟩:=h.ex _ (hE' _ hk.2.1);have:=(B5.1 e1).1;have h5:=h.fr (k- n0) this hk.2.2.1;rw[N0 hk.1] at h5;exact h5 hal
  have alto:∀k,al k->al1 k:=λk hk=>(k2.up k (.inl hk)).1;have xto:∀k,xD ops an n0 blk rk (wo D i) j k->al1 k\/xD ops an n0 blk rk D (j+1) k:=λk hk=>by
   by_cases hbk:bas ops an rk (j+1) (k- n0)
   ·rcases(hbas _).1 hbk with h5|h5|h5
    ·exact absurd h5 hk.2.2.1
    ·exact absurd h5 hk.2.1.2
    ·exact .inl (k2.up k (.inr ⟨hk.1,.inl h5,hk.2.2⟩)).1
   ·exact .inr ⟨hk.1,hk.2.1.1,hbk,hk.2.2.2⟩
  have xfro:∀k,xD ops an n0 blk rk D (j+1) k->xD ops an n0 blk rk (wo D i) j k:=λk hk=>⟨hk.1,⟨hk.2.1,λe=>hk.2.2.1 ((hbas _).2 (.inr (.inl e)))⟩,λh5=>hk.2.2.1 ((hbas _).2 (.inl h5)),hk.2.2.2⟩;have xno:∀k,xD ops an n0 blk rk D (j+1) k->¬al1 k:=λk hk hal=>by
   obtain⟨oe,e1⟩:=KB h ho _ (h1 _ hk.2.1);have:=(B5.1 e1).1;have h5:=fr1 (k- n0) this hk.2.2.1;rw[N0 hk.1] at h5;exact h5 hal
  have key:=HSf.frame (alB:=alD ops an n0 blk rk al1 D (j+1)) (GB:=λk=>if al1 k then G1 k else G0 k) (gB:=gD ops an n0 blk rk hc D (j+1)) s1 s2 k1 k2 (λk hk=>hk.imp id (Y1 w4)) n1.pr (λk hk=>by
   rcases hk with hk|hk
   ·rw[Pp λhc=>kept _ w1 k hc hk,Pp λhc=>kept _ hx.dn k hc hk]
   ·rw[Vk hk,Vk (Y1 w4 hk)]) (λk=>by
    constructor
    ·rintro (hk|hk)
     ·exact .inl hk
     ·exact .inr (.inr (xfro k hk))
    ·rintro (hk|hk|hk)
     ·exact .inl hk
     ·exact .inl (alto k hk)
     ·exact(xto k hk).imp id id) (λk hk=>Bi hk) (λk hk=>Ar hk) (λk hk=>Pp λhc=>xno k hc hk) (λk hk=>by
    by_cases hxk:xD ops an n0 blk rk D (j+1) k
    ·rw[Vk hxk,Vk (xfro k hxk)]
    ·have hn:¬xD ops an n0 blk rk (wo D i) j k:=λhc=>(xto k hc).elim hk hxk;rw[Pp hxk,Pp hn];cases e1:(hc (j+1)).h.get k with
     |some b=>exact absurd (k1.pr k b e1) hk
     |none=>
      cases e2:(hc j).h.get k with
      |none=>rfl
      |some b=>
       rcases s1.pr k b (by rw[Pp hn];exact e2) with h5|h5
       ·exact absurd (alto k h5) hk
       ·exact absurd h5 hn)
  refine⟨key.1,key.2.1,λk ok d hk e1 e2 G hG=>?_⟩;by_cases e:k=i
  ·subst e;rw[ho] at e1;cases e1;rw[JD h.sz e2 hm];exact hu G λl hl=>(hG l (.inl hl)).trans (Bi hl)
  ·rw[CX hcl ho e1 e e2];exact s3 k ok d ⟨hk,e⟩ e1 e2 G λl hl=>(hG l (key.2.2 l hl).1).trans (key.2.2 l hl).2
theorem UA {Hp:CH} (h:HX ops an n0 blk rk hc i Hp) (hrk:rk i=j):∀k,Hp.h.get k=gD ops an n0 blk rk hc (Ki ops an rk j i) j k:=λk=>by
 obtain⟨_,h1,h2⟩:=h;rw[hrk] at h1 h2;by_cases hk:xD ops an n0 blk rk (Ki ops an rk j i) j k
 ·rw[Vk hk];obtain⟨b,hb⟩:=Nn.1 hk.2.2.2;have:=h1 (k- n0) b (hk.2.1.resolve_right hk.2.2.1) hk.2.2.1 hb;rw[N0 hk.1] at this;rw[this,hb]
 ·rw[Pp hk];refine h2 k λi' e hi hn=>?_;subst e;cases hb:blk i' with
  |none=>rfl
  |some b=>exact absurd (GL.2 ⟨.inl hi,hn,by rw[hb];rfl⟩) hk
theorem TF.rfl {al:Nat->Prop} {G:Gh} {g:Hf} {n:Nat} {w:World}:TF al G g n w al G g n w:=⟨Ak _,λ_ h=>⟨h,Eq.refl _⟩,λ_ _ h=>h,Eq.refl _,Eq.refl _,Eq.refl _,Ak _,λ_ _ _=>Eq.refl _,λ_ _ h=>h⟩
theorem AQ {r:Option Nat} {nn:Nat} {K':Act->World->Prop} {Q:Exit->Act->World->Prop} (hd:Zk o=true) (hr:Re P o a w u w') (hK:K' (a.put o.dst u) w'):o.wpIn (feR r) nn P a w K' Q:=
 Qi (λc e=>by unfold Zk at hd;rw[e] at hd;cases hd) (by
  rcases hr with hr|⟨hr,rfl⟩
  ·rw[hr];exact hK
  ·rw[hr];exact hK)
theorem CW (hs:a.tmps.size=m0) (ho:Zk o=true) (h:Re P o (Yi m0 o a) w u w'):Re P o a w u w':=by
 unfold Re at h⊢;rw[ZW hs ho];exact h
end
section
variable {P:Program} {ops:Array Oper} {an n0:Nat} {T0:Tr Value} {m0:Nat} {val:Nat->Value} {blk:Nat->Option Bk} {rk:Nat->Nat} {hc:Nat->CH}
variable {M:Nat} {T1:Tr Value} {H1:CH} {alI:Nat->Prop} {Gi:Gh} {gI:Hf} {nI:Nat} {wI:World} {a0:Act} {done:Nat->Bool} {j:Nat} {al:Nat->Prop} {G0:Gh} {a:Act} {w:World}
theorem Inv.step (hcl:Cl ops an) (hp:Plan P ops an n0 T0 m0 val blk rk hc M T1 H1) (h:Inv ops an n0 m0 val blk rk hc M alI Gi gI nI wI a0 done j al G0 a w) (hI:∀G,Ag alI Gi G->TR G T0 m0 a0.tmps) (hnI:nI<=n0) {i:Nat} {o:Oper} (ho:ops[i]? =some o) (hx:Next ops an rk done j i) {r:Option Nat} {nn:Nat} {Q:Exit->Act->World->Prop}:
  wpOpIn (feR r) nn P ops Q i (λa' w'=>∃j al G0,Inv ops an n0 m0 val blk rk hc M alI Gi gI nI wI a0 (upd done i) j al G0 a' w') a w:=by
 obtain⟨hm,b,hw,hb0,hb1⟩:=hp.one i o ho;have hds:=hcl.ds i o ho;have hwant:=h.wanted hcl ho hx hw;have hni:∀e,D7 an e i=true->i≠e->True:=λ_ _ _=>trivial;have hjrk:j<=rk i:=Uc λhlt=>by
  obtain⟨e,h1,h2⟩:=hp.lev (rk i) (Aw hlt h.jM);have hde:=(h.eff e h1).2 (by rw[h2];exact hlt);have hne:i≠e:=λe'=>by rw[<-e',hx.nd] at hde;cases hde
  have:=hp.ord i o e ho h1 hne tqO;rw[hx.up e hde] at this;cases this
 have hE:Jp o=true->rk i=j/\j<M/\∀e,isE ops e->rk e=j->e=i:=λhe=>by
  have hEi:isE ops i:=⟨o,ho,he⟩;have ea:∀e oe,ops[e]? =some oe->e≠i->rk e<=rk i->rk e<j\/isE ops e->isE ops e->rk e<j:=λe oe h1 h2 h3 _ h5=>
   (h.eff e h5).1 (hx.anc e (hp.ord e oe i h1 hEi h2 h3))
  have hrk:rk i=j:=by
   rcases Pj j (rk i) with hlt|hge
   ·obtain⟨e,h1,h2⟩:=hp.lev j (Nat.lt_trans hlt (hp.top i hEi));obtain⟨oe,h3,_⟩:=id h1;have:=ea e oe h3 (λe'=>by rw[e'] at h2;omega) tqO (.inr h1) h1;omega
   ·omega
  refine⟨hrk,by rw[<-hrk];exact hp.top i hEi,λe h1 h2=>?_⟩;obtain⟨oe,h3,_⟩:=id h1;apply Classical.byContradiction;intro hne;have:=ea e oe h3 hne tqO (.inr h1) h1;omega
 unfold wpOpIn;simp only[ho,hwant];obtain⟨n1,n2,n3⟩:=h.st (Ki ops an rk j i) hx.dn (λk hk=>.inr hk) hx.cl;cases b with
 |false=>
  obtain⟨hv,hbk,hpre⟩:=hb0 I;refine⟨λ_ _=>trivial,?_⟩;have hu:∀G:Gh,undef=den G (val i):=λG=>by rw[hv];simp
  cases he:Jp o with
  |false=>exact⟨j,al,G0,h.quiet hcl ho hx he hbk hm λG _=>hu G⟩
  |true=>
   obtain⟨hrk,hjM,huq⟩:=hE he;have hpre:=hpre he;rw[hrk] at hpre;have hg:(hc (j+1)).h.get=gD ops an n0 blk rk hc (Ki ops an rk j i) j:=funext (UA hpre hrk);have hn:(hc (j+1)).n=(hc j).n:=by have:=hpre.1;rw[hrk] at this;exact this
   exact⟨_,_,_,h.did hcl ho hx he hbk hm hrk hjM huq (by rw[hg,hn];exact n1) (by rw[hg,hn];exact TF.rfl) λG _=>hu G⟩
 |true=>
  simp only[If];obtain⟨T,hT,hk⟩:=hb1 I;have hts:=h.ts hcl hI ho hx hT;have pure:∀ {hh:Tr Bk},Jp o=false->blk i=none->(∀G,Ag (alD ops an n0 blk rk al (Ki ops an rk j i) j) G0 G->HR G hh w)->∀N,OpP P T m0 o ⟨hh,N⟩ (val i)->
    o.wpIn (feR r) nn P a w (λa' w'=>∃j al G0,Inv ops an n0 m0 val blk rk hc M alI Gi gI nI wI a0 (upd done i) j al G0 a' w') Q:=λhe hbk hr N hop=>by
   have h1:=hop G0 _ w (hts G0 .rfl) (hr G0 .rfl);refine AQ hds (CW h.sz hds h1) ⟨j,al,G0,h.quiet hcl ho hx he hbk hm λG hG=>?_⟩;exact(h1.det (hop G _ w (hts G hG) (hr G hG))).1
  unfold KdS at hk;cases hkd:Zd o.op with
  |q=>
   simp only[hkd] at hk;exact pure (by unfold Jp;rw[hkd]) hk.1 (λG _=>⟨λk b hk=>by simp at hk,λk k' b b' hk=>by simp at hk⟩) 0 hk.2
  |l=>
   simp only[hkd] at hk;have he:Jp o=false:=by unfold Jp;rw[hkd]
   have hsub:∀k b,(hc j).h.get k=some b->gD ops an n0 blk rk hc (Ki ops an rk j i) j k=some b:=λk b hb=>by
    by_cases hk:xD ops an n0 blk rk (Ki ops an rk j i) j k
    ·exfalso;obtain⟨s1,_,_⟩:=h.st (bas ops an rk j) h.basd (λ_ hk=>hk) λk l=>JS hcl;have hno:¬xD ops an n0 blk rk (bas ops an rk j) j k:=λh1=>h1.2.2.1 h1.2.1;rcases s1.pr k b (by rw[Pp hno];exact hb) with h1|h1
     ·obtain⟨oe,e1⟩:=h.ex _ (hx.dn _ hk.2.1);have:=h.fr (k- n0) (B5.1 e1).1 hk.2.2.1;rw[N0 hk.1] at this;exact this h1
     ·exact hno h1
    ·rw[Pp hk];exact hb
   have hrr:∀G,Ag (alD ops an n0 blk rk al (Ki ops an rk j i) j) G0 G->HR G (hc j).h w:=λG hG=>⟨λk b hb=>n1.bk G hG k b (hsub k b hb),λk k' b b' hb hb'=>n1.inj G hG k k' b b' (hsub k b hb) (hsub k' b' hb')⟩;have hef:∀e,isE ops e->D7 an e i=true->rk e<j:=λe h1 h2=>(h.eff e h1).1 (hx.anc e h2);rcases hk with ⟨hbk,hk⟩|⟨hbk,hk⟩
   ·exact pure (hh:=(hc j).h) he hbk hrr (hc j).n (hk j hjrk hef)
   ·obtain⟨g,u,h1,h2⟩:=hk j hjrk hef G0 _ w (hts G0 .rfl) (hrr G0 .rfl);exact AQ hds (CW h.sz hds h1) ⟨_,_,_,h.new hcl hnI ho hx he hbk hm (g:=g) (λ_ _=>I) (Ak _) I I I (λh=>(nomatch h)) (λh=>(nomatch h)) λG _ hn=>h2 G hn⟩
  |n=>
   simp only[hkd] at hk;have he:Jp o=false:=by unfold Jp;rw[hkd]
   obtain⟨bk,hbk,u,ob,h1,h2,h3⟩:=hk;have hob:∀G,Ag (alD ops an n0 blk rk al (Ki ops an rk j i) j) G0 G->w.alloc (ob G)=w.alloc (ob G0):=λG hG=>by
    have e1:=h1 G0 _ w (hts G0 .rfl);have e2:=h1 G _ w (hts G hG);rw[e1] at e2;injection e2 with _ e2
    exact e2.symm
   exact AQ hds (CW h.sz hds (.inl (h1 G0 _ w (hts G0 .rfl)))) ⟨_,_,_,h.new hcl hnI ho hx he hbk hm (g:=⟨w.heap.size,0,0,0,0⟩) (λj hj=>Gw w _ j hj) tqS I I I (λ_=>Ak _) (λ_ G hG hn=>by rw[<-hob G hG];exact h3 G w hn) λG _ hn=>h2 G _ hn⟩
  |e=>
   simp only[hkd] at hk;have he:Jp o=true:=by unfold Jp;rw[hkd]
   obtain⟨hrk,hjM,huq⟩:=hE he;obtain⟨hbk,Hp,hpre,heff⟩:=hk;have hg:=UA hpre hrk;have hn:Hp.n=(hc j).n:=by have:=hpre.1;rw[hrk] at this;exact this
   refine heff r nn _ G0 a (Yi m0 o a) w _ Q (KW h.sz) hts (n1.s hg hn) λal1 G1 w' u t1 t2 hu=>?_;rw[hrk] at t1 t2;have t1:=t1.f;have hg':Hp.h.get=gD ops an n0 blk rk hc (Ki ops an rk j i) j:=funext hg;rw[hg',hn] at t1;exact⟨_,_,_,h.did hcl ho hx he hbk hm hrk hjM huq t2.f t1 hu⟩
theorem Agk (hm:P.follows .mixedOrders=true) (hac:JP ops.toList=true) (hcl:Cl ops an) {F F1:Fr} {H:CH} (hp:Plan P ops an H.n F.T F.m val blk rk hc M F1.T H1) (hF:F1.m=F.m/\F1.D=F.D) (h0:hc 0=⟨H.h,H.n+ops.size⟩)
  (id:Nat) (r:Option Nat) (nn:Nat) (al:Nat->Prop) (G0:Gh) (a:Act) (w:World) (Q:Exit->Act->World->Prop) (hf:FS al G0 F a) (hS:HS al G0 H w) (hT:Pm al G0 H w .normal F1 H1 Q):(Code.region id ops true).wpIn (feR r) nn P Q a w:=by
 have e0:(λj=>(Array.replicate ops.size false).getD j false)=λ_=>false:=by
  funext j
  rw[Bp,Array.getElem?_replicate];split<;>rfl
 have hI:∀G,Ag al G0 G->TR G F.T F.m a.tmps:=λG hG=>(hf G hG).1;have nob:∀k,¬bas ops an rk 0 k:=λk ⟨e,_,h,_⟩=>by omega
 refine wpIn_region_any hm (Afw (λdone a' w'=>∃j al' G',Inv ops an H.n F.m val blk rk hc M al G0 H.h.get H.n w a done j al' G' a' w') hac ?_ ?_ _ _ _ _ tqS tqS ?_)
 ·rintro done i o a' w' ho hdi hd ⟨j,al',G',h⟩;exact h.step hcl hp hI (Ak _) ho (h.next hcl ho hdi hd)
 ·rintro done a' w' hall ⟨j,al',G',h⟩;have hj:j=M:=by
   rcases Pj j M with hlt|hge
   ·obtain⟨e,h1,h2⟩:=hp.lev j hlt;have h1':=h1;obtain⟨oe,h3,_⟩:=h1';have:=(h.eff e h1).1 (hall e (B5.1 h3).1);omega
   ·have:=h.jM;omega
  subst hj;obtain⟨s1,s2,s3⟩:=h.st (λk=>done k=true) (λ_ h=>h) h.basd λk l=>h.cl k l;have hg:∀k,H1.h.get k=gD ops an H.n blk rk hc (λk=>done k=true) j k:=λk=>by
   by_cases hk:xD ops an H.n blk rk (λk=>done k=true) j k
   ·rw[Vk hk];obtain⟨b,hb⟩:=Nn.1 hk.2.2.2;obtain⟨oe,e1⟩:=h.ex _ hk.2.1;have:=hp.h1 (k- H.n) b oe e1 hk.2.2.1 hb;rw[N0 hk.1] at this;rw[this,hb]
   ·rw[Pp hk];refine hp.h2 k λi o e ho hn=>?_;subst e;cases hb:blk i with
    |none=>rfl
    |some b=>exact absurd (GL.2 ⟨hall i (B5.1 ho).1,hn,by rw[hb];rfl⟩) hk
  have t1:To al G0 H w _ G' H1 w':=s2.t (λ_=>I) I hg hp.n1;refine hT _ G' a' w' t1 (s1.s hg hp.n1) λG hG=>⟨⟨by rw[hF.1];exact h.sz,λt=>?_⟩,?_⟩
  ·by_cases ht:∃(i:Nat) (o:Oper),ops[i]? =some o/\o.dst=some t
   ·obtain⟨i,o,e1,e2⟩:=ht;rw[hp.slot1 i o t e1 e2];exact s3 i o t (hall i (B5.1 e1).1) e1 e2 G hG
   ·have hno:∀(i:Nat) (o:Oper),ops[i]? =some o->o.dst≠some t:=λi o e1 e2=>ht ⟨i,o,e1,e2⟩;rw[hp.slot2 t hno,h.old t λk o _ e1=>hno k o e1];exact(hI G λk hk=>(hG k (s2.up k hk).1).trans (s2.up k hk).2).2 t
  ·rw[h.df,hF.2];exact(hf G λk hk=>(hG k (s2.up k hk).1).trans (s2.up k hk).2).2
 ·rw[e0];have hr:HSf al G0 H.h.get (H.n+ops.size) {w with drawn:=w.drawn+1}:=((hS.f.sub (n':=H.n+ops.size) (λ_ _ h=>h) λk hk=>Aw (hS.lt k hk) (Nat.le_add_right _ _)).keep (λ_ _=>I) λ_ _=>I);refine⟨0,al,G0,λi h=>(nomatch h),λi k h=>(nomatch h),λe he=>by simp,Ax _,by rw[h0];exact Ak _,λi hi _ hal=>?_,(hI G0 .rfl).1,I,λ_ _=>I,λD h1 h2 h3=>?_⟩
  ·have:=hS.lt _ hal;omega
  ·have hno:∀k,¬xD ops an H.n blk rk D 0 k:=λk hk=>by
    have:=h1 _ hk.2.1;cases this
   have ea:alD ops an H.n blk rk al D 0=al:=funext λk=>propext ⟨λh=>h.resolve_right (hno k),.inl⟩;have eg:gD ops an H.n blk rk hc D 0=H.h.get:=funext λk=>by rw[Pp (hno k),h0]
   rw[ea,eg,h0];refine⟨hr,⟨Nat.le_add_right _ _,λ_ h=>⟨h,I⟩,λ_ _ h=>h,I,I,I,Ak _,λ_ _ _=>I,λ_ _ h=>h⟩,λi o d hi=>?_⟩;have:=h1 _ hi;cases this
end
theorem VC {a b k:Nat} (h:sub a b=true) (hk:a.testBit k=true):b.testBit k=true:=by
 have h1:(a&&& b)=a:=Bq h;rw[<-h1,Nat.testBit_and,Ad] at hk;exact hk.2
theorem Lg (m i k:Nat):(H6 m i).testBit k=true↔k=i\/m.testBit k=true:=by
 show (m|||1<<<i).testBit k=true↔_
 rw[Pk,Nat.one_shiftLeft,V4,Fw,Aq];constructor
 ·rintro (h|h)
  ·exact .inr h
  ·exact .inl h.symm
 ·rintro (h|h)
  ·exact .inr h.symm
  ·exact .inl h
variable {α:Type}
theorem Yt {l:List α} {f:α×Nat->Bool} (h:l.zipIdx.all f=true) {i:Nat} {x:α} (hx:l[i]? =some x):f (x,i)=true:=
 A6.1 h _ (List.mk_mem_zipIdx_iff_getElem?.2 hx)
theorem GO {an k:Nat}:∀(l:List Edge) (m:Nat),(l.foldl (λl e=>match Region.binds .any e with
 |true=>Nat.lor l (Nat.lor (Nat.shiftLeft 1 e.on) (S7 an e.on))
 |false=>l) m).testBit k=true->m.testBit k=true\/∃e∈l,Region.binds .any e=true/\(e.on=k\/D7 an k e.on=true)
 | [],m,h=>.inl h
 |e::l,m,h=>by
  rw[List.foldl_cons] at h;rcases GO l _ h with h1|⟨e',h1,h2⟩
  ·cases hb:Region.binds .any e with
   |true=>
    rw[hb] at h1;have h1:(m|||(1<<<e.on|||S7 an e.on)).testBit k=true:=h1;rw[Pk,Pk,Nat.one_shiftLeft,V4,Fw,Fw,Aq] at h1;rcases h1 with h1|h1|h1
    ·exact .inl h1
    ·exact .inr ⟨e,F7,hb,.inl h1⟩
    ·exact .inr ⟨e,F7,hb,.inr h1⟩
   |false=>rw[hb] at h1;exact .inl h1
  ·exact .inr ⟨e',B3 _ h1,h2⟩
theorem NY {an:Nat}:∀(l:List Edge) (m:Nat) (k:Nat),m.testBit k=true\/(∃e∈l,Region.binds .any e=true/\(e.on=k\/D7 an k e.on=true))->(l.foldl (λl e=>match Region.binds .any e with
 |true=>Nat.lor l (Nat.lor (Nat.shiftLeft 1 e.on) (S7 an e.on))
 |false=>l) m).testBit k=true
 | [],m,k,h=>by
  rcases h with h|⟨e,he,_⟩
  ·exact h
  ·cases he
 |e::l,m,k,h=>by
  rw[List.foldl_cons];refine NY l _ k ?_;rcases h with h|⟨e',he,hb,h⟩
  ·refine .inl ?_;split
   ·show (m|||(1<<<e.on|||S7 an e.on)).testBit k=true
    rw[Pk,h];rfl
   ·exact h
  ·rcases Ap.1 he with rfl|he
   ·refine .inl ?_;rw[hb];show (m|||(1<<<e'.on|||S7 an e'.on)).testBit k=true
    rw[Pk,Pk,Nat.one_shiftLeft,V4,Fw,Fw,Aq];rcases h with h|h
    ·exact .inr (.inl h)
    ·exact .inr (.inr h)
   ·exact .inr ⟨e',he,hb,h⟩
theorem Anr {ops:Array Oper} {an:Nat} (h:RS ops.toList an=true):Cl ops an/\JP ops.toList=true/\(∀(i:Nat) (o:Oper),ops[i]? =some o->Aa2 o=true):=by
 unfold RS at h;simp only[Ad] at h;obtain⟨_,h1,h2,h3,h4,h5,h6⟩:=h;have at':∀ {i:Nat} {o:Oper},ops[i]? =some o->ops.toList[i]? =some o:=λh=>by simpa using h
 unfold Aix at h5;generalize wrM ops.toList=wm at h4;have anc:∀(i:Nat) (o:Oper),ops[i]? =some o->S7 an i=Acl an o:=λi o ho=>Bq (Yt h5 (at' ho));have snd:∀(i:Nat) (o:Oper) (k:Nat),ops[i]? =some o->D7 an k i=true->∃e∈o.after,Region.binds .any e=true/\(e.on=k\/D7 an k e.on=true):=λi o k ho hk=>by
  have hk:(S7 an i).testBit k=true:=hk;rw[anc i o ho] at hk;rcases GO o.after.toList 0 hk with h7|⟨e,h7,h8⟩
  ·simp at h7
  ·exact⟨e,by simpa using h7,h8⟩
 have inn:∀(i:Nat) (o:Oper) (e:Edge) (k:Nat),ops[i]? =some o->e∈o.after->Region.binds .any e=true->(e.on=k\/D7 an k e.on=true)->D7 an k i=true:=λi o e k ho he hb hk=>by
  show (S7 an i).testBit k=true
  rw[anc i o ho];exact NY o.after.toList 0 k (.inr ⟨e,by simpa using he,hb,hk⟩)
 have wr:∀(i:Nat) (o:Oper) (d:Nat),ops[i]? =some o->o.dst=some d->Ais wm d=i+1:=λi o d ho hd=>by
  have:=Yt h4 (at' ho);simp only[hd,Ad] at this;exact Bq this.1
 refine⟨⟨λi=>?_,snd,λi k oi ok d hi hk hne hd=>?_,λi o j b ho hg=>?_,λi o ho=>A6.1 h2 o (Av (at' ho))⟩,h1,λi o ho=>A6.1 h3 o (Av (at' ho))⟩
 ·induction i using Nat.strongRecOn with
  |_ i ih=>
   intro k l hi hk hl;have ho:ops[i]? =some ops[i]:=K8 hi;obtain⟨e,he,hb,h7⟩:=snd i _ k ho hk;refine inn i _ e l ho he hb (.inr ?_);rcases h7 with rfl|h7
   ·exact hl
   ·have hlt:=JQ h1 (at' ho) he hb;exact ih e.on hlt k l tqO h7 hl
 ·refine⟨λe=>?_,?_⟩
  ·have e1:=wr i oi d hi hd;rw[wr k ok d hk e] at e1;omega
  ·by_cases hm:Operand.tmp d∈ok.op.operands
   ·have:=Yt h4 (at' hk);simp only[Ad] at this;have:=A6.1 this.2 (.tmp d) (by simpa using hm);unfold Aev at this;simp only[wr i oi d hi hd,Fw,Es] at this;rcases this with h7|h7|h7
    ·exact absurd h7 hne
    ·exact .inl h7
    ·exact .inr (.inl h7)
   ·exact .inr (.inr hm)
 ·have:=Yt h6 (at' ho);simp only[hg] at this;exact this
section
variable {P:Program} {β:Type} {z:β} {ih:Ev β} {ops:Array Oper} {T:Tr Value} {m:Nat} {o:Oper}
theorem Qw:∀(xs:List Operand) (A:Tr Value) (K:Tr Value->β),R4 z T xs A K=z\/∃A',R4 z T xs A K=K A'/\(∀t,Operand.tmp t ∉ xs->A'.get t=A.get t)/\∀t,Operand.tmp t∈xs->A'.get t=T.get t\/T.get t=none/\A'.get t=A.get t
 | [],A,K=>.inr ⟨A,I,λ_ _=>I,λ_ h=>nomatch h⟩
 |x::xs,A,K=>by
  have e:R4 z T (x::xs) A K=match x with
   | .tmp t=>match T.get t with
    |some v=>Tr.put z v A t λA=>R4 z T xs A K
    |none=>R4 z T xs A K
   |_=>R4 z T xs A K:=rfl
  have skip:(∀t,x=.tmp t->T.get t=none)->R4 z T xs A K=z\/∃A',R4 z T xs A K=K A'/\(∀t,Operand.tmp t ∉ x::xs->A'.get t=A.get t)/\∀t,Operand.tmp t∈x::xs->A'.get t=T.get t\/T.get t=none/\A'.get t=A.get t:=λhx=>by
   rcases Qw xs A K with h|⟨A',h,h1,h2⟩
   ·exact .inl h
   ·refine .inr ⟨A',h,λt ht=>h1 t λhc=>ht (B3 _ hc),λt ht=>?_⟩;by_cases hm:Operand.tmp t∈xs
    ·exact h2 t hm
    ·rcases Ap.1 ht with hc|hc
     ·exact .inr ⟨hx t hc.symm,h1 t hm⟩
     ·exact absurd hc hm
  rw[e];cases x with
  |tmp t=>
   dsimp only;cases hT:T.get t with
   |none=>exact skip λt' h=>by injection h with h;rw[<-h];exact hT
   |some v=>
    dsimp only;rcases Tr.put_spec z v A t (λA=>R4 z T xs A K) with h|⟨A1,h,hA⟩
    ·exact .inl h
    rw[h];rcases Qw xs A1 K with h|⟨A',h,h1,h2⟩
    ·exact .inl h
    ·have one:∀t',t'≠t->A1.get t'=A.get t':=λt' hne=>by rw[hA,Ar hne]
     refine .inr ⟨A',h,λt' ht=>?_,λt' ht=>?_⟩
     ·rw[h1 t' λhc=>ht (B3 _ hc)];exact one t' λe=>ht (by rw[e];exact F7)
     ·by_cases hm:Operand.tmp t'∈xs
      ·by_cases e':t'=t
       ·subst e';rcases h2 t' hm with h3|⟨h3,_⟩
        ·exact .inl h3
        ·rw[hT] at h3;cases h3
       ·rcases h2 t' hm with h3|⟨h3,h4⟩
        ·exact .inl h3
        ·exact .inr ⟨h3,h4.trans (one t' e')⟩
      ·rcases Ap.1 ht with hc|hc
       ·injection hc with hc
        subst hc;rw[h1 t' hm,hA,Bi I,hT];exact .inl I
       ·exact absurd hc hm
  |_=>exact skip λt h=>nomatch h
theorem AJ {xs:List Operand} {A':Tr Value} (h1:∀t,Operand.tmp t ∉ xs->A'.get t=(Tr.lf:Tr Value).get t) (h2:∀t,Operand.tmp t∈xs->A'.get t=T.get t\/T.get t=none/\A'.get t=(Tr.lf:Tr Value).get t):
  (∀t,Operand.tmp t ∉ xs->A'.get t=none)/\∀t,Operand.tmp t∈xs->(A'.get t).getD undef=(T.get t).getD undef:=
 ⟨h1,λt ht=>by
  rcases h2 t ht with h|⟨h,h3⟩
  ·rw[h]
  ·rw[h,h3];rfl⟩
theorem DK.row {cs:List Value} {t:TypeId} {k:Nat} {v:Value} (u:Nat->Value) (hrun:∀(G:Gh) (a:Act) (w:World),TR G T m a.tmps->(execOp a.eval o).run P w=.ok (.value (u w.heap.size)) (w.alloc (.cells ⟨cs.map (den G)⟩ t)))
  (hv:∀(G:Gh) (s:Nat),G k=⟨s,0,0,0,0⟩->u s=den G v):DK P T m o k (.c cs t 0) v:=
 ⟨u,λG=>.cells ⟨cs.map (den G)⟩ t,hrun,hv,λG w hn=>⟨[],[],by
  rw[hn];simpa using E6 w (.cells ⟨cs.map (den G)⟩ t),⟨λ_=>⟨I,I,by rw[hn]⟩,λh=>absurd I h,by rw[hn];rfl⟩⟩⟩
theorem Ady (hok:∀x∈o.op.operands.toList,C3 x=true) {k:Nat} {K:Value->Bk->β}:Aat P z T o k K=z\/∃v b,Aat P z T o k K=K v b/\DK P T m o k b v:=by
 unfold Aat;split
 ·rename_i t ho;split
  ·rename_i cs hz;obtain⟨i,v0,hi,hzv,hcs,hlen,_,hzd⟩:=Ov hz;have hc0:v0.cells=⟨cs⟩:=by rw[<-hcs]
   refine .inr ⟨_,_,I,DK.row (λs=>.pointer (some ⟨s,0,none⟩)) (λG a w ht=>?_) λG s hs=>?_⟩
   ·rw[hzd G];simp[execOp,ho,Instr.alloc,zeroValue,typeInfo,hi,hzv,newVar,newRow,hc0]
   ·simp[den,dA,hs]
  ·exact .inl I
 ·rename_i t x ho;have hx:=hok x (by simp[ho,Op.operands]);refine .inr ⟨_,_,I,DK.row (λs=>.pointer (some ⟨s,0,none⟩)) (λG a w ht=>?_) λG s hs=>?_⟩
  ·have e:=Cz ht hx;have e2:(a.eval x).cells=⟨(C2 (evT T x).cells).map (den G)⟩:=by
    apply Cn;rw[e,Uu,J0]
   simp[execOp,ho,Instr.box,newVar,newRow,e2]
  ·simp[den,dA,hs]
 ·rename_i t l ps ho;have hok:∀p∈ps.toList,C3 p.2=true:=λp hp=>hok p.2 (by simp only[ho,Op.operands];exact V1 hp);split
  ·rename_i p hp;split
   ·rename_i zs sz hz hb hsz;obtain⟨he,inf,hinf,hsz'⟩:=Xv hp;obtain⟨i,v0,hi,hzv,hcs,hlen,_,hzd⟩:=Ov hz;rw[hinf] at hi;cases hi;have hs1:inf.size=sz+1:=hsz'.trans hsz;rcases W2 (z:=z) (m:=m) (T:=T) (sz:=sz) ps.toList (Ge zs l) (λcs=>K (.slice (some ⟨k,0,none⟩) l l) (.c cs p.1 0)) hok with h|⟨ds,h,hdl,h4⟩
    ·exact .inl h
    ·rcases Oe l with hl0|hl0
     ·subst hl0;refine .inr ⟨_,_,h,DK.row (λs=>.slice (some ⟨s,0,none⟩) 0 0) (λG a w ht=>?_) λG s hs=>?_⟩
      ·have hf:=h4 G a ht;have hd0:ds=[]:=E0 (by rw[hdl];simp[Ge]);subst hd0;simp only[Ge,List.replicate_zero,List.flatten_nil,E4] at hf;have hps:(ps.map λx=>(x.1,a.eval x.2)).toList=ps.toList.map λp=>(p.1,a.eval p.2):=by simp
       have e0:(Array.range 0)=(#[]:Array Nat):=I;simp[execOp,ho,Instr.buildSlice,At he,sizeOf,typeInfo,hinf,newRow,hs1,e0,hf]
      ·simp[den,dA,ext,hs]
     ·refine .inr ⟨_,_,h,DK.row (λs=>.slice (some ⟨s,0,none⟩) l l) (λG a w ht=>?_) λG s hs=>?_⟩
      ·have hf:=h4 G a ht;rw[Ox (hzd G)] at hf;have hc0:v0.cells.size=inf.size:=by rw[<-hlen,<-hcs];simp
       have hz2:((Array.range (l*inf.size)).map (v0.cells[· % v0.cells.size]!))=(Ge zs l).toArray:=by
        apply Cn;rw[Tp v0.cells inf.size hc0 l,hcs]
       have hb2:l*inf.size<=2 ^ 24:=by
        have:=Cy hb;rw[hsz'];exact this
       have:=run_buildSlice (P:=P) w t p.1 l (ps.map λ(i,x)=>(i,a.eval x)) ⟨ds.map (den G)⟩ inf v0 he hinf hzv tqO (by rw[hs1];exact Nat.ne_of_gt (Ws hl0 (Nat.succ_pos _))) (by
        rw[hz2,Di,hs1];exact hf)
       simp[execOp,ho,this]
      ·simp[den,dA,ext,hs]
   ·exact .inl I
  ·exact .inl I
 ·rename_i t r ho;split
  ·refine .inr ⟨_,_,I,λs=>.map (some s),λ_=>.map #[] 0,λG a w _=>by simp[execOp,ho,Instr.makeMap],λG s hs=>by simp[den,hs],λG w hn=>?_⟩;show (w.alloc (.map #[] 0)).heap[(G k).b]? =_
   rw[hn];exact E6 w _
  ·exact .inl I
 ·exact .inl I
theorem OG {a a0:Act} (hds:Zk o=true) (he:∀x∈o.op.operands,a.eval x=a0.eval x):execOp a.eval o=execOp a0.eval o:=
 execOp_congr o (λcs b e=>by unfold Zk at hds;rw[e] at hds;cases hds) he
theorem OpS.eff {H H':CH} {v:Value} (hds:Zk o=true) (h:OpS P T m o H v H'):YX P T m o H v H':=by
 intro r nn al G0 a a0 w K' Q he ht hS hK;obtain⟨al',G',w',t1,hS1,u,hr,hu⟩:=h al G0 a0 w ht hS;refine AQ hds ?_ (hK al' G' w' u t1 hS1 hu);unfold Re at hr⊢;rw[OG hds he];exact hr
theorem Acz (hs:Lf P z ih) (hds:Zk o=true) (hok:∀x∈o.op.operands.toList,C3 x=true) {H:CH} {K:Value->CH->β}:RT P z ih T o H K=z\/∃v H',RT P z ih T o H K=K v H'/\YX P T m o H v H':=by
 have other:opV P z T o H K=z\/∃v H',opV P z T o H K=K v H'/\YX P T m o H v H':=(TK (m:=m) hok (K:=K)).imp id λ⟨v,H',h1,h2⟩=>⟨v,H',h1,h2.eff hds⟩;unfold RT;split
 ·rename_i c ho;split
  ·rename_i f hc;have hof:C3 f=true:=hok f (by simp[ho,Op.operands,Call.operands,hc]);have hoa:∀x∈c.args.toList,C3 x=true:=λx hx=>hok x (by simp[ho,Op.operands,Call.operands,hc,J3.1 hx]);split
   ·rename_i g first cap hv
    split
    ·rename_i hB;have hE:∀args w,(callFunc g args).run P w=.ok (.enter g args) w:=Qh hB;generalize hK1:(λ(e:Ex) (_:Fr) (H:CH)=>_)=K1;rcases hs (.fn g (C2 first++(C2 (c.args.map (evT T))++C2 cap))) noF H K1 with h|⟨e,Fx,H1,h,hfn⟩
     ·exact .inl h
     rw[h,<-hK1];cases e with
     |val v=>
      refine .inr ⟨v,H1,I,λr nn al G0 a a0 w K' Q he ht hS hK=>?_⟩;have ev0:∀G,Ag al G0 G->a0.eval f=.func (.func g) ⟨(C2 first).map (den G)⟩ ⟨(C2 cap).map (den G)⟩:=λG hG=>by
       rw[Cz (ht G hG) hof,hv];exact Ma G _ _ _
      have hargs:∀G,Ag al G0 G->(c.args.map a0.eval).toList=(C2 (c.args.map (evT T))).map (den G):=λG hG=>by
       rw[J0,Di,Di];exact Yw (ht G hG) hoa
      have hrun:(execOp a0.eval o).run P w=.ok (.enter g (⟨(C2 first).map (den G0)⟩++c.args.map a0.eval++⟨(C2 cap).map (den G0)⟩)) w:=by
       simp only[execOp,ho,resolve,hc,ev0 G0 .rfl,Deferred.ofValue,invoke,hE,Ba,Bh,An]
      refine Qi (λc'=>by rw[ho];simp) ?_;rw[OG hds he,hrun];refine⟨λh=>(nomatch h),hfn r (nn- 1) al G0 _ w _ (λG hG=>?_) hS (λal' G' w' t1 hS1 u hu=>hK al' G' w' u t1 hS1 hu) (.inl ⟨v,I⟩)⟩;have e1:=ev0 G hG;rw[ev0 G0 .rfl] at e1;injection e1 with _ e2 e3
      injection e2 with e2
      injection e3 with e3
      apply Cn;rw[e2,e3,Kk,Kk,hargs G hG];simp
     |_=>exact .inl I
    ·exact .inl I
   ·exact .inl I
  ·exact other
 ·exact other
theorem Adr (op:Op) (h:Zd op=.q\/Zd op=.l):isQ op=true:=by
 cases op with
 |call c=>
  cases hc:c.callee with
  |builtin b=>cases b<;>simp[Zd,isQ,hc] at h⊢
  |value f=>simp[Zd,hc] at h
  |invoke a b=>simp[Zd,hc] at h
 |_=>simp[Zd,isQ] at h⊢
theorem GP {an i k n:Nat} {v:Value} (hok:∀x∈o.op.operands.toList,C3 x=true) (hq:isQ o.op=true):∀(es:List (Nat×CH)),JR P an i k n v T o es=true->
  ∀(q:Nat) (p:Nat×CH),es[q]? =some p->(∀(q':Nat) (p':Nat×CH),q'<=q->es[q']? =some p'->D7 an p'.1 i=false)->(n=k->OpP P T m o ⟨p.2.h,k⟩ v)/\(n≠k->OpD P T m o ⟨p.2.h,k⟩ v)
 | [],_,q,p,hp,_=>by simp at hp
 |p0::es,h,q,p,hp,hno=>by
  have e:JR P an i k n v T o (p0::es)=match D7 an p0.1 i with
   |true=>true
   |false=>opV P false T o ⟨p0.2.h,k⟩ λv' H'=>match Nat.beq H'.n n&&Oh v v' with
    |true=>JR P an i k n v T o es
    |false=>false:=rfl
  rw[e,hno 0 p0 (Ax _) I] at h;dsimp only at h;generalize hK1:(λ(v':Value) (H':CH)=>_)=K1 at h;rcases AE (P:=P) (T:=T) (m:=m) (z:=false) (H:=⟨p0.2.h,k⟩) (o:=o) hok (K:=K1) with h1|⟨v',H',h1,h2⟩
  ·rw[h1] at h;cases h
  ·rw[h1,<-hK1] at h;dsimp only at h;split at h
   ·rename_i hb;simp only[Ad,Es] at hb;obtain⟨hb1,hb2⟩:=hb;have:=Y9 _ _ hb2;subst this;cases q with
    |zero=>
     cases hp;exact⟨λhn=>h2.2.1 hq (hb1.trans hn),λhn=>h2.2.2 hq λhc=>hn (hb1.symm.trans hc)⟩
    |succ q=>exact GP hok hq es h q p (by simpa using hp) λq' p' hq' hp'=>hno (q'+1) p' tqO (by simpa using hp')
   ·cases h
theorem Acf {F:Fr} {K:Bool->β}:ML z ops o F.T K=z\/∃b,ML z ops o F.T K=K b/\match o.guard with
  |none=>b=true
  |some (j,c)=>∃(oj:Oper) (d:Nat),ops[j]? =some oj/\oj.dst=some d/\b=KO ((F.T.get d).getD undef) c:=by
 unfold ML;split
 ·rename_i hg;exact .inr ⟨true,I,by rw[hg]⟩
 ·rename_i j c hg;rw[hg];split
  ·rename_i oj hj;split
   ·rename_i d hd;split
    ·rename_i b hb;rw[Yv] at hb;exact .inr ⟨_,I,oj,d,hj,hd,by rw[hb];rfl⟩
    ·rename_i hnb;refine .inr ⟨_,I,oj,d,hj,hd,?_⟩;unfold KO;split
     ·rename_i c' hc';rw[<-Yv] at hc';exact absurd hc' (hnb c')
     ·rfl
   ·exact .inl I
  ·exact .inl I
theorem UB {d:Option Nat} {v:Value} {F:Fr} {K:Fr->β}:Iv z d v F K=z\/∃F',Iv z d v F K=K F'/\F'.m=F.m/\F'.D=F.D/\F'.q=F.q/\(∀d',d=some d'->d'<F.m)/\∀t,F'.T.get t=if d=some t then some v else F.T.get t:=by
 unfold Iv;obtain⟨T0,m,D,q⟩:=F;cases d with
 |none=>exact .inr ⟨_,I,I,I,I,⟨λ_ h=>(nomatch h),λt=>by rw[Ar tqS]⟩⟩
 |some d=>
  dsimp only;split
  ·rename_i hd;rcases PJ z v 40 d T0 (λT=>K ⟨T,m,D,q⟩) with h|⟨T,h,hT⟩
   ·exact .inl h
   ·refine .inr ⟨_,h,I,I,I,λd' h=>by cases h;simpa [Gr] using hd,λt=>?_⟩;dsimp only;rw[hT];by_cases e:t=d
    ·subst e;simp
    ·rw[Ar e,Ar (by simpa using Ut e)]
  ·exact .inl I
end
def up1 (f:Nat->α) (i:Nat) (v:α) (k:Nat):α:=if k=i then v else f k
theorem Jw (f:Nat->α) (i:Nat) (v:α):up1 f i v i=v:=Bi I
theorem Lj {f:Nat->α} {i k:Nat} {v:α} (h:k≠i):up1 f i v k=f k:=Ar h
structure Pre (ops:Array Oper) (an n0:Nat) (F0:Fr) (val:Nat->Value) (blk:Nat->Option Bk) (rk:Nat->Nat) (hc:Nat->CH) (M pd dn:Nat) (F:Fr) (H B:CH) (es:List (Nat×CH)):Prop where
 ex:∀i,dn.testBit i=true->∃o:Oper,ops[i]? =some o
 slot1:∀(i:Nat) (o:Oper) (t:Nat),dn.testBit i=true->ops[i]? =some o->o.dst=some t->(F.T.get t).getD undef=val i
 slot2:∀t,(∀(i:Nat) (o:Oper),dn.testBit i=true->ops[i]? =some o->o.dst≠some t)->(F.T.get t).getD undef=(F0.T.get t).getD undef
 fr:F.m=F0.m/\F.D=F0.D/\F.q=F0.q
 B:B=hc M
 n:H.n=(hc M).n
 h1:∀i b,pd.testBit i=true->blk i=some b->H.h.get (n0+i)=some b
 h2:∀k,(∀i,k=n0+i->pd.testBit i=true->blk i=none)->H.h.get k=(hc M).h.get k
 cl:∀i k,dn.testBit i=true->D7 an k i=true->dn.testBit k=true
 esf:es.length=M/\∀(q:Nat) (p:Nat×CH),es[q]? =some p->dn.testBit p.1=true/\isE ops p.1/\rk p.1+q+1=M/\p.2=hc (rk p.1)
 top:∀e,dn.testBit e=true->isE ops e->rk e<M/\∃(q:Nat) (p:Nat×CH),es[q]? =some p/\p.1=e
 rkM:∀i,dn.testBit i=true->rk i<=M
 ord:∀i e,dn.testBit i=true->dn.testBit e=true->isE ops e->i≠e->rk i<=rk e->D7 an i e=true
 pd1:∀i,pd.testBit i=true->dn.testBit i=true/\∀e,dn.testBit e=true->isE ops e->D7 an i e=false/\i≠e
 pd2:∀i,dn.testBit i=true->pd.testBit i=false->∃e,dn.testBit e=true/\isE ops e/\(i=e\/D7 an i e=true)
section
variable {ops:Array Oper} {an n0:Nat} {F0:Fr} {val:Nat->Value} {blk:Nat->Option Bk} {rk:Nat->Nat} {hc:Nat->CH} {M pd dn:Nat} {F F1:Fr} {H H1 B:CH} {es:List (Nat×CH)} {i:Nat} {o:Oper} {v:Value}
theorem Jv {k:Nat} (h:(H6 dn i).testBit k=true) (hne:k≠i):dn.testBit k=true:=((Lg dn i k).1 h).resolve_left hne
theorem Zi {k:Nat} (hnd:dn.testBit i=false) (h:dn.testBit k=true):k≠i:=λe=>by rw[e,hnd] at h;cases h
theorem Pre.slots (h:Pre ops an n0 F0 val blk rk hc M pd dn F H B es) (hcl:Cl ops an) (ho:ops[i]? =some o) (hnd:dn.testBit i=false) (hT:∀t,F1.T.get t=if o.dst=some t then some v else F.T.get t):
  (∀(i':Nat) (o:Oper) (t:Nat),(H6 dn i).testBit i'=true->ops[i']? =some o->o.dst=some t->(F1.T.get t).getD undef=up1 val i v i')/\
  ∀t,(∀(i':Nat) (o:Oper),(H6 dn i).testBit i'=true->ops[i']? =some o->o.dst≠some t)->(F1.T.get t).getD undef=(F0.T.get t).getD undef:=by
 constructor
 ·intro i' o' t hi' ho' hd;by_cases e:i'=i
  ·subst e;rw[ho] at ho';cases ho';rw[hT,Bi hd,Jw];rfl
  ·rw[hT,Ar (hcl.slot i' i o' o t ho' ho e hd).1,Lj e];exact h.slot1 i' o' t (Jv hi' e) ho' hd
 ·intro t ht;rw[hT,Ar (ht i o ((Lg dn i i).2 (.inl I)) ho)];exact h.slot2 t λi' o' hi'=>ht i' o' ((Lg dn i i').2 (.inr hi'))
theorem Pre.base (h:Pre ops an n0 F0 val blk rk hc M pd dn F H B es) (ho:ops[i]? =some o) (hanc:∀k,D7 an k i=true->dn.testBit k=true):
  (∀i',(H6 dn i).testBit i'=true->∃o:Oper,ops[i']? =some o)/\∀i' k,(H6 dn i).testBit i'=true->D7 an k i'=true->(H6 dn i).testBit k=true:=by
 constructor
 ·intro i' hi';by_cases e:i'=i
  ·exact⟨o,by rw[e];exact ho⟩
  ·exact h.ex i' (Jv hi' e)
 ·intro i' k hi' hk;refine(Lg dn i k).2 (.inr ?_);by_cases e:i'=i
  ·subst e;exact hanc k hk
  ·exact h.cl i' k (Jv hi' e) hk
theorem Amb (ho:ops[i]? =some o) (hE:Jp o=false) {e:Nat} (he:isE ops e):e≠i:=λe'=>by
 obtain⟨oe,h1,h2⟩:=he;rw[e',ho] at h1;cases h1;rw[hE] at h2;cases h2
theorem Pre.quiet (h:Pre ops an n0 F0 val blk rk hc M pd dn F H B es) (hcl:Cl ops an) (ho:ops[i]? =some o) (hnd:dn.testBit i=false) (hanc:∀k,D7 an k i=true->dn.testBit k=true) (hE:Jp o=false)
  (hF:F1.m=F.m/\F1.D=F.D/\F1.q=F.q) (hT:∀t,F1.T.get t=if o.dst=some t then some v else F.T.get t) {bo:Option Bk} (hn:H1.n=H.n) (hh:∀k,H1.h.get k=if bo.isSome=true/\k=n0+i then bo else H.h.get k):
  Pre ops an n0 F0 (up1 val i v) (up1 blk i bo) (up1 rk i M) hc M (H6 pd i) (H6 dn i) F1 H1 B es:=by
 have npd:pd.testBit i=false:=by
  cases hp:pd.testBit i with
  |false=>rfl
  |true=>rw[(h.pd1 i hp).1] at hnd;cases hnd
 have ene:∀e,isE ops e->e≠i:=λe=>Amb ho hE;have npi:∀ {k},pd.testBit k=true->k≠i:=λhk e=>by rw[e,npd] at hk;cases hk
 have bit:∀ {m k},m.testBit k=true->(H6 m i).testBit k=true:=λhk=>(Lg _ i _).2 (.inr hk);obtain⟨b1,b2⟩:=h.base ho hanc;obtain⟨s1,s2⟩:=h.slots hcl ho hnd hT;refine⟨b1,s1,s2,⟨hF.1.trans h.fr.1,hF.2.1.trans h.fr.2.1,hF.2.2.trans h.fr.2.2⟩,h.B,hn.trans h.n,λi' b hi' hb=>?_,λk hk=>?_,b2,⟨h.esf.1,λq p hp=>?_⟩,λe he hE'=>?_,λi' hi'=>?_,λi' e hi' he hE' hne hr=>?_,λi' hi'=>?_,λi' hi' hp=>?_⟩
 ·by_cases e:i'=i
  ·subst e;rw[Jw] at hb;subst hb;rw[hh,Bi ⟨I,I⟩]
  ·rw[Lj e] at hb;rw[hh,Ar tqO];exact h.h1 i' b (((Lg pd i i').1 hi').resolve_left e) hb
 ·have hx:¬(bo.isSome=true/\k=n0+i):=λ⟨h1,h2⟩=>by
   have:=hk i h2 ((Lg pd i i).2 (.inl I));rw[Jw] at this;rw[this] at h1;cases h1
  rw[hh,Ar hx];refine h.h2 k λi' e hi'=>?_;have:=hk i' e (bit hi');rwa[Lj (npi hi')] at this
 ·obtain⟨h1,h2,h3,h4⟩:=h.esf.2 q p hp;rw[Lj (ene p.1 h2)];exact⟨bit h1,h2,h3,h4⟩
 ·rw[Lj (ene e hE')];exact h.top e (Jv he (ene e hE')) hE'
 ·by_cases e:i'=i
  ·rw[e,Jw];exact Ak _
  ·rw[Lj e];exact h.rkM i' (Jv hi' e)
 ·have he':=Jv he (ene e hE');rw[Lj (ene e hE')] at hr;by_cases e':i'=i
  ·rw[e',Jw] at hr;have:=(h.top e he' hE').1;omega
  ·rw[Lj e'] at hr;exact h.ord i' e (Jv hi' e') he' hE' hne hr
 ·by_cases e:i'=i
  ·subst e;refine⟨(Lg dn i' i').2 (.inl I),λe he hE'=>⟨?_,Ut (ene e hE')⟩⟩;cases hx:D7 an i' e with
   |false=>rfl
   |true=>
    have:=h.cl e i' (Jv he (ene e hE')) hx;rw[hnd] at this;cases this
  ·obtain⟨h1,h2⟩:=h.pd1 i' (((Lg pd i i').1 hi').resolve_left e);exact⟨bit h1,λe he hE'=>h2 e (Jv he (ene e hE')) hE'⟩
 ·have e:i'≠i:=λe=>by
   rw[e,(Lg pd i i).2 (.inl I)] at hp;cases hp
  obtain⟨e',h1,h2,h3⟩:=h.pd2 i' (Jv hi' e) (by
   cases hx:pd.testBit i' with
   |false=>rfl
   |true=>rw[bit hx] at hp;cases hp)
  exact⟨e',bit h1,h2,h3⟩
theorem Pre.all (h:Pre ops an n0 F0 val blk rk hc M pd dn F H B es) (hcl:Cl ops an) (ho:ops[i]? =some o) (hE:JZ an i pd es=true):(∀k,pd.testBit k=true->D7 an k i=true)/\∀k,dn.testBit k=true->D7 an k i=true:=by
 unfold JZ at hE;simp only[Ad] at hE;obtain⟨e1,e2⟩:=hE;have hi:=(B5.1 ho).1;have hp:∀k,pd.testBit k=true->D7 an k i=true:=λk hk=>VC e1 hk;have hes:∀e,dn.testBit e=true->isE ops e->D7 an e i=true:=λe he hEe=>by
  obtain⟨hlt,q,p,hq,rfl⟩:=h.top e he hEe;cases hes:es with
  |nil=>rw[hes] at hq;simp at hq
  |cons p0 es'=>
   rw[hes] at e2;dsimp only at e2;obtain⟨f1,f2,f3,_⟩:=h.esf.2 0 p0 (by rw[hes];rfl);by_cases e':p.1=p0.1
   ·rw[e'];exact e2
   ·refine hcl.trans i p0.1 p.1 hi e2 (h.ord p.1 p0.1 he f1 f2 e' tqO)
 refine⟨hp,λk hk=>?_⟩;cases hx:pd.testBit k with
 |true=>exact hp k hx
 |false=>
  obtain⟨e,h1,h2,h3⟩:=h.pd2 k hk hx;rcases h3 with rfl|h3
  ·exact hes k h1 h2
  ·exact hcl.trans i e k hi (hes e h1 h2) h3
theorem Pre.eff (h:Pre ops an n0 F0 val blk rk hc M pd dn F H B es) (hcl:Cl ops an) (ho:ops[i]? =some o) (hnd:dn.testBit i=false) (hanc:∀k,D7 an k i=true->dn.testBit k=true) (hE:Jp o=true) (hok:JZ an i pd es=true)
  (hF:F1.m=F.m/\F1.D=F.D/\F1.q=F.q) (hT:∀t,F1.T.get t=if o.dst=some t then some v else F.T.get t):
  Pre ops an n0 F0 (up1 val i v) (up1 blk i none) (up1 rk i M) (up1 hc (M+1) H1) (M+1) 0 (H6 dn i) F1 H1 H1 ((i,B)::es):=by
 have hall:=(h.all hcl ho hok).2;have bit:∀ {m k},m.testBit k=true->(H6 m i).testBit k=true:=λhk=>(Lg _ i _).2 (.inr hk);have self:(H6 dn i).testBit i=true:=(Lg dn i i).2 (.inl I);have hEi:isE ops i:=⟨o,ho,hE⟩;obtain⟨b1,b2⟩:=h.base ho hanc;obtain⟨s1,s2⟩:=h.slots hcl ho hnd hT;refine⟨b1,s1,s2,⟨hF.1.trans h.fr.1,hF.2.1.trans h.fr.2.1,hF.2.2.trans h.fr.2.2⟩,(Jw hc _ _).symm,by rw[Jw],λi' b hi'=>by simp at hi',λk hk=>by rw[Jw],b2,⟨by simp[h.esf.1],λq p hp=>?_⟩,λe he hE'=>?_,λi' hi'=>?_,λi' e hi' he hE' hne hr=>?_,λi' hi'=>by simp at hi',λi' hi' hp=>⟨i,self,hEi,?_⟩⟩
 ·cases q with
  |zero=>
   simp only[Lw,B7] at hp;subst hp;dsimp only;rw[Jw,Lj (Km (Nl M))];exact⟨self,hEi,tqO,h.B⟩
  |succ q=>
   simp only[Ip] at hp;obtain⟨h1,h2,h3,h4⟩:=h.esf.2 q p hp;rw[Lj (Zi hnd h1),Lj tqO];exact⟨bit h1,h2,tqO,h4⟩
 ·by_cases e':e=i
  ·subst e';rw[Jw];exact⟨Nl M,0,(e,B),I,I⟩
  ·obtain⟨h1,q,p,h2,h3⟩:=h.top e (Jv he e') hE';rw[Lj e'];exact⟨Nat.lt_succ_of_lt h1,q+1,p,by simpa using h2,h3⟩
 ·by_cases e:i'=i
  ·rw[e,Jw];exact Nat.le_succ _
  ·rw[Lj e];exact Nat.le_succ_of_le (h.rkM i' (Jv hi' e))
 ·by_cases e':e=i
  ·subst e';exact hall i' (Jv hi' hne)
  ·rw[Lj e'] at hr;have he':=Jv he e';by_cases e2:i'=i
   ·rw[e2,Jw] at hr;have:=(h.top e he' hE').1;omega
   ·rw[Lj e2] at hr;exact h.ord i' e (Jv hi' e2) he' hE' hne hr
 ·by_cases e:i'=i
  ·exact .inl e
  ·exact .inr (hall i' (Jv hi' e))
theorem Pre.preH (h:Pre ops an n0 F0 val blk rk hc M pd dn F H B es) (hcl:Cl ops an) (ho:ops[i]? =some o) (hanc:∀k,D7 an k i=true->dn.testBit k=true) (hok:JZ an i pd es=true)
  {blk':Nat->Option Bk} {rk':Nat->Nat} {hc':Nat->CH} (a1:∀k,dn.testBit k=true->blk' k=blk k/\rk' k=rk k) (a2:rk' i=M) (a3:hc' M=hc M) (a4:∀k,dn.testBit k=false->k<ops.size->M<=rk' k)
  {Hp:CH} (hp1:Hp.n=H.n) (hp2:∀k,Hp.h.get k=H.h.get k):HX ops an n0 blk' rk' hc' i Hp:=by
 unfold HX;rw[a2,a3];refine⟨hp1.trans h.n,λk b hk hb hbk=>?_,λk hk=>?_⟩
 ·have hd:=hanc k hk;rw[(a1 k hd).1] at hbk;rw[hp2];refine h.h1 k b ?_ hbk;cases hx:pd.testBit k with
  |true=>rfl
  |false=>
   obtain⟨e,h1,h2,h3⟩:=h.pd2 k hd hx;exact absurd ⟨e,h2,by rw[(a1 e h1).2];exact(h.top e h1 h2).1,h3⟩ hb
 ·rw[hp2];refine h.h2 k λi' e hi'=>?_;obtain⟨h1,h2⟩:=h.pd1 i' hi';have:=hk i' e ((h.all hcl ho hok).1 i' hi') λ⟨e',h3,h4,h5⟩=>by
   cases hx:dn.testBit e' with
   |true=>
    obtain⟨h6,h7⟩:=h2 e' hx h3;rcases h5 with h5|h5
    ·exact h7 h5
    ·rw[h6] at h5;cases h5
   |false=>
    obtain⟨oe,h6,_⟩:=h3;have:=a4 e' hx (B5.1 h6).1;omega
  rwa[(a1 i' h1).1] at this
theorem Pre.rst (h:Pre ops an n0 F0 val blk rk hc M pd dn F H B es) (hcl:Cl ops an) (ho:ops[i]? =some o) (hnd:dn.testBit i=false) (hanc:∀k,D7 an k i=true->dn.testBit k=true)
  {val':Nat->Value} (a1:∀k,dn.testBit k=true->val' k=val k) {T:Tr Value} (hT:(∀t,Operand.tmp t ∉ o.op.operands.toList->T.get t=none)/\∀t,Operand.tmp t∈o.op.operands.toList->(T.get t).getD undef=(F.T.get t).getD undef):Rst ops an F0.T val' T i o:=by
 refine⟨λt ht=>hT.1 t (by simpa using ht),λt ht=>?_⟩;rw[hT.2 t (by simpa using ht)];refine⟨λk ok hk hd hka=>?_,λhno=>?_⟩
 ·rw[a1 k (hanc k hka)];exact h.slot1 k ok t (hanc k hka) hk hd
 ·refine h.slot2 t λk ok hkd hk hd=>?_;rcases(hcl.slot k i ok o t hk ho (Zi hnd hkd) hd).2 with h1|h1|h1
  ·rw[hno k ok hk hd] at h1;cases h1
  ·have:=h.cl k i hkd h1;rw[hnd] at this;cases this
  ·exact h1 ht
end
structure Agr (ops:Array Oper) (dn M:Nat) (val:Nat->Value) (blk:Nat->Option Bk) (rk:Nat->Nat) (hc:Nat->CH) (val':Nat->Value) (blk':Nat->Option Bk) (rk':Nat->Nat) (hc':Nat->CH):Prop where
 v:∀k,dn.testBit k=true->val' k=val k
 b:∀k,dn.testBit k=true->blk' k=blk k
 r:∀k,dn.testBit k=true->rk' k=rk k
 h:∀m,m<=M->hc' m=hc m
 l:∀k,dn.testBit k=false->k<ops.size->M<=rk' k
section
variable {P:Program} {β:Type} {z:β} {ih:Ev β} {K:E5 β} {ops:Array Oper} {an n0:Nat} {F0:Fr}
def Res (P:Program) (z:β) (K:E5 β) (ops:Array Oper) (an n0:Nat) (F0:Fr) (r:β) (dn M:Nat) (val:Nat->Value) (blk:Nat->Option Bk) (rk:Nat->Nat) (hc:Nat->CH):Prop:=
 r=z\/∃(F1:Fr) (H1:CH) (val':Nat->Value) (blk':Nat->Option Bk) (rk':Nat->Nat) (hc':Nat->CH) (M':Nat),r=K .normal F1 H1/\Agr ops dn M val blk rk hc val' blk' rk' hc'/\
  (∀(i:Nat) (o:Oper),ops[i]? =some o->dn.testBit i=false->One P ops an n0 F0.T F0.m val' blk' rk' hc' i o)/\∃pd' dn' B' es',dn'+1=2 ^ ops.size/\Pre ops an n0 F0 val' blk' rk' hc' M' pd' dn' F1 H1 B' es'
variable {val:Nat->Value} {blk:Nat->Option Bk} {rk:Nat->Nat} {hc hc1:Nat->CH} {M M1 pd dn:Nat} {F F1:Fr} {H H1 B:CH} {es:List (Nat×CH)} {i:Nat} {o:Oper} {v:Value} {bo:Option Bk} {r:β}
theorem Res.step (h:Res P z K ops an n0 F0 r (H6 dn i) M1 (up1 val i v) (up1 blk i bo) (up1 rk i M) hc1) (ho:ops[i]? =some o) (hnd:dn.testBit i=false) (hM:M<=M1) (hh:∀m,m<=M->hc1 m=hc m)
  (one:∀(val':Nat->Value) (blk':Nat->Option Bk) (rk':Nat->Nat) (hc':Nat->CH),Agr ops dn M val blk rk hc val' blk' rk' hc'->val' i=v->blk' i=bo->rk' i=M->(∀m,m<=M1->hc' m=hc1 m)->One P ops an n0 F0.T F0.m val' blk' rk' hc' i o):Res P z K ops an n0 F0 r dn M val blk rk hc:=by
 rcases h with h|⟨F1,H1,val',blk',rk',hc',M',h,hA,hO,hP⟩
 ·exact .inl h
 ·have bit:∀ {k},dn.testBit k=true->(H6 dn i).testBit k=true:=λhk=>(Lg _ i _).2 (.inr hk);have self:(H6 dn i).testBit i=true:=(Lg dn i i).2 (.inl I);have nbit:∀ {k},dn.testBit k=false->k≠i->(H6 dn i).testBit k=false:=λ{k} hk hne=>by
   cases hx:(H6 dn i).testBit k with
   |false=>rfl
   |true=>rw[Jv hx hne] at hk;cases hk
  have hA':Agr ops dn M val blk rk hc val' blk' rk' hc':=⟨λk hk=>(hA.v k (bit hk)).trans (Lj (Zi hnd hk)),λk hk=>(hA.b k (bit hk)).trans (Lj (Zi hnd hk)),λk hk=>(hA.r k (bit hk)).trans (Lj (Zi hnd hk)),λm hm=>(hA.h m (Bf hm hM)).trans (hh m hm),λk hk hs=>by
   by_cases e:k=i
   ·rw[e,hA.r i self,Jw];exact Ak _
   ·exact Bf hM (hA.l k (nbit hk e) hs)⟩
  refine .inr ⟨F1,H1,val',blk',rk',hc',M',h,hA',λk ok hk hkd=>?_,hP⟩;by_cases e:k=i
  ·subst e;rw[ho] at hk;cases hk;exact one val' blk' rk' hc' hA' ((hA.v k self).trans (Jw _ _ _)) ((hA.b k self).trans (Jw _ _ _)) ((hA.r k self).trans (Jw _ _ _)) hA.h
  ·exact hO k ok hk (nbit hkd e)
theorem BY (hs:Lf P z ih) (hcl:Cl ops an) (hopk:∀(i:Nat) (o:Oper),ops[i]? =some o->Aa2 o=true):∀(l:List Nat) (pd dn:Nat) (F:Fr) (H B:CH) (es:List (Nat×CH)) (val:Nat->Value) (blk:Nat->Option Bk) (rk:Nat->Nat) (hc:Nat->CH) (M:Nat),
  Pre ops an n0 F0 val blk rk hc M pd dn F H B es->Res P z K ops an n0 F0 (Ra P z ih ops an n0 K l pd dn F H B es) dn M val blk rk hc
 | [],pd,dn,F,H,B,es,val,blk,rk,hc,M,hp=>by
  have e:Ra P z ih ops an n0 K [] pd dn F H B es=match Nat.beq (Nat.add dn 1) (Nat.pow 2 ops.size) with
   |true=>K .normal F H
   |false=>z:=rfl
  rw[e];split
  ·rename_i hb;have hb:dn+1=2 ^ ops.size:=Bq hb;refine .inr ⟨F,H,val,blk,rk,hc,M,I,⟨λ_ _=>I,λ_ _=>I,λ_ _=>I,λ_ _=>I,λk hk hs=>?_⟩,λk o hk hkd=>?_,pd,dn,B,es,hb,hp⟩
   ·have e1:dn=2 ^ ops.size- 1:=by omega
    rw[e1,Pu] at hk;simp at hk;omega
   ·have:=(B5.1 hk).1;have e1:dn=2 ^ ops.size- 1:=by omega
    rw[e1,Pu] at hkd;simp at hkd;omega
  ·exact .inl I
 |i::l,pd,dn,F,H,B,es,val,blk,rk,hc,M,hp=>by
  have e:Ra P z ih ops an n0 K (i::l) pd dn F H B es=match ops[i]? with
   |some o=>match sub (S7 an i) dn&& !(Nat.testBit dn i) with
    |true=>ML z ops o F.T λw=>QP P z ih an n0 i o w (Ra P z ih ops an n0 K l) pd dn F H B es
    |false=>z
   |none=>z:=I
  rw[e];cases ho:ops[i]? with
  |none=>exact .inl I
  |some o=>
  dsimp only;split;rotate_left
  ·exact .inl I
  rename_i hg;simp only[Ad,Ei] at hg;obtain⟨hg1,hnd⟩:=hg;have hanc:∀k,D7 an k i=true->dn.testBit k=true:=λk hk=>VC hg1 hk;have hok:∀x∈o.op.operands.toList,C3 x=true:=λx hx=>A6.1 (hopk i o ho) x hx;have hds:=hcl.ds i o ho;rcases Acf (z:=z) (ops:=ops) (o:=o) (F:=F) (K:=λw=>QP P z ih an n0 i o w (Ra P z ih ops an n0 K l) pd dn F H B es) with h|⟨b,h,hw⟩
  ·exact .inl h
  rw[h];clear h e;have wn:∀ {val':Nat->Value},(∀k,dn.testBit k=true->val' k=val k)->Wn ops val' o b:=λ{val'} ha=>by
   unfold Wn;cases hgd:o.guard with
   |none=>rw[hgd] at hw;exact hw
   |some p=>
    obtain⟨j,c⟩:=p;rw[hgd] at hw;obtain⟨oj,d,e1,e2,e3⟩:=hw;have hj:=hanc j (hcl.grd i o j c ho hgd);refine⟨oj,d,e1,e2,?_⟩;rw[e3,hp.slot1 j oj d hj e1 e2,ha j hj]
  have quiet:∀ {v:Value} {H1:CH} {bo:Option Bk},Jp o=false->H1.n=H.n->(∀k,H1.h.get k=if bo.isSome=true/\k=n0+i then bo else H.h.get k)->
    (∀(val':Nat->Value) (blk':Nat->Option Bk) (rk':Nat->Nat) (hc':Nat->CH),Agr ops dn M val blk rk hc val' blk' rk' hc'->val' i=v->blk' i=bo->rk' i=M->
     (b=false->v=undef/\bo=none)/\(b=true->∃T,Rst ops an F0.T val' T i o/\KdS P ops an n0 F0.m val' blk' rk' hc' i o T))->
    Res P z K ops an n0 F0 (Iv z o.dst v F λF=>Ra P z ih ops an n0 K l (H6 pd i) (H6 dn i) F H1 B es) dn M val blk rk hc:=λ{v H1 bo} hE hn hh hone=>by
   rcases UB (z:=z) (d:=o.dst) (v:=v) (F:=F) (K:=λF=>Ra P z ih ops an n0 K l (H6 pd i) (H6 dn i) F H1 B es) with h|⟨F1,h,hm,hD,hq,hlt,hT⟩
   ·exact .inl h
   rw[h];refine Res.step (BY hs hcl hopk l _ _ F1 H1 B es _ _ _ _ M (hp.quiet hcl ho hnd hanc hE ⟨hm,hD,hq⟩ hT hn hh)) ho hnd (Ak _) (λ_ _=>I) λval' blk' rk' hc' hA e1 e2 e3 _=>?_;obtain⟨o1,o2⟩:=hone val' blk' rk' hc' hA e1 e2 e3;refine⟨λd hd=>by rw[<-hp.fr.1];exact hlt d hd,b,wn hA.v,λhb=>?_,o2⟩;obtain⟨f1,f2⟩:=o1 hb;exact⟨e1.trans f1,e2.trans f2,λh=>by rw[hE] at h;cases h⟩
  unfold QP;cases hkd:Zd o.op with
  |e=>
   have hE:Jp o=true:=by unfold Jp;rw[hkd]
   dsimp only;unfold Ai3;split;rotate_left
   ·exact .inl I
   rename_i hok2;have eff:∀ {v:Value} {H1:CH},(∀(val':Nat->Value) (blk':Nat->Option Bk) (rk':Nat->Nat) (hc':Nat->CH),Agr ops dn M val blk rk hc val' blk' rk' hc'->val' i=v->blk' i=none->rk' i=M->hc' (M+1)=H1->
     (b=false->v=undef/\HX ops an n0 blk' rk' hc' i H1)/\(b=true->∃T,Rst ops an F0.T val' T i o/\KdS P ops an n0 F0.m val' blk' rk' hc' i o T))->
     Res P z K ops an n0 F0 (Iv z o.dst v F λF=>Ra P z ih ops an n0 K l 0 (H6 dn i) F H1 H1 ((i,B)::es)) dn M val blk rk hc:=λ{v H1} hone=>by
    rcases UB (z:=z) (d:=o.dst) (v:=v) (F:=F) (K:=λF=>Ra P z ih ops an n0 K l 0 (H6 dn i) F H1 H1 ((i,B)::es)) with h|⟨F1,h,hm,hD,hq,hlt,hT⟩
    ·exact .inl h
    rw[h];refine Res.step (BY hs hcl hopk l _ _ F1 H1 H1 _ _ _ _ _ (M+1) (hp.eff hcl ho hnd hanc hE hok2 ⟨hm,hD,hq⟩ hT)) ho hnd (Nat.le_succ _) (λm hm=>Lj tqO) λval' blk' rk' hc' hA e1 e2 e3 e4=>?_;have e5:hc' (M+1)=H1:=(e4 (M+1) (Ak _)).trans (Jw _ _ _);obtain⟨o1,o2⟩:=hone val' blk' rk' hc' hA e1 e2 e3 e5;refine⟨λd hd=>by rw[<-hp.fr.1];exact hlt d hd,b,wn hA.v,λhb=>?_,o2⟩;obtain⟨f1,f2⟩:=o1 hb;exact⟨e1.trans f1,e2,λ_=>by rw[e3,e5];exact f2⟩
   have preh:∀ {val':Nat->Value} {blk':Nat->Option Bk} {rk':Nat->Nat} {hc':Nat->CH},Agr ops dn M val blk rk hc val' blk' rk' hc'->rk' i=M->HX ops an n0 blk' rk' hc' i H:=λhA e3=>
    hp.preH hcl ho hanc hok2 (λk hk=>⟨hA.b k hk,hA.r k hk⟩) e3 (hA.h M (Ak _)) hA.l I λ_=>I
   cases b with
   |false=>exact eff λval' blk' rk' hc' hA e1 e2 e3 e4=>⟨λ_=>⟨I,preh hA e3⟩,λh=>nomatch h⟩
   |true=>
    dsimp only;rcases Qw (z:=z) (T:=F.T) o.op.operands.toList .lf (λT=>RT P z ih T o H λv H'=>Iv z o.dst v F λF=>Ra P z ih ops an n0 K l 0 (H6 dn i) F H' H' ((i,B)::es)) with h|⟨T,h,t1,t2⟩
    ·exact .inl h
    rw[h];have hT:=AJ t1 t2;rcases Acz (m:=F0.m) (T:=T) hs hds hok (H:=H) (K:=λv H'=>Iv z o.dst v F λF=>Ra P z ih ops an n0 K l 0 (H6 dn i) F H' H' ((i,B)::es)) with h|⟨v,H',h,he⟩
    ·exact .inl h
    rw[h];refine eff λval' blk' rk' hc' hA e1 e2 e3 e4=>⟨λh=>(nomatch h),λ_=>⟨T,hp.rst hcl ho hnd hanc hA.v hT,?_⟩⟩;unfold KdS;simp only[hkd];refine⟨e2,H,preh hA e3,?_⟩;rw[e1,e3,e4];exact he
  |q=>
   have hE:Jp o=false:=by unfold Jp;rw[hkd]
   dsimp only;cases b with
   |false=>exact quiet (bo:=none) hE I (λk=>by rw[Ar tqS]) λval' blk' rk' hc' hA e1 e2 e3=>⟨λ_=>⟨I,I⟩,λh=>nomatch h⟩
   |true=>
    dsimp only;unfold QO;generalize hK1:(λT:Tr Value=>_)=K1;rcases Qw (z:=z) (T:=F.T) o.op.operands.toList .lf K1 with h|⟨T,h,t1,t2⟩
    ·exact .inl h
    rw[h,<-hK1];clear hK1 h;have hT:=AJ t1 t2;dsimp only;generalize hK1:(λ(v:Value) (H':CH)=>_)=K1;rcases AE (P:=P) (z:=z) (T:=T) (m:=F0.m) (H:=⟨.lf,0⟩) hok (K:=K1) with h|⟨v,H',h,he⟩
    ·exact .inl h
    rw[h,<-hK1];clear hK1 h;dsimp only;split;rotate_left
    ·exact .inl I
    rename_i hn0;refine quiet (bo:=none) hE I (λk=>by rw[Ar tqS]) λval' blk' rk' hc' hA e1 e2 e3=>⟨λh=>(nomatch h),λ_=>⟨T,hp.rst hcl ho hnd hanc hA.v hT,?_⟩⟩;unfold KdS;simp only[hkd];rw[e1];exact⟨e2,he.2.1 (Adr _ (.inl hkd)) (Bq hn0)⟩
  |l=>
   have hE:Jp o=false:=by unfold Jp;rw[hkd]
   dsimp only;cases b with
   |false=>exact quiet (bo:=none) hE I (λk=>by rw[Ar tqS]) λval' blk' rk' hc' hA e1 e2 e3=>⟨λ_=>⟨I,I⟩,λh=>nomatch h⟩
   |true=>
    dsimp only;unfold QO;generalize hK1:(λT:Tr Value=>_)=K1;rcases Qw (z:=z) (T:=F.T) o.op.operands.toList .lf K1 with h|⟨T,h,t1,t2⟩
    ·exact .inl h
    rw[h,<-hK1];clear hK1 h;have hT:=AJ t1 t2;dsimp only;generalize hK1:(λ(v:Value) (H':CH)=>_)=K1;rcases AE (P:=P) (z:=z) (T:=T) (m:=F0.m) (H:=⟨B.h,Nat.add n0 i⟩) hok (K:=K1) with h|⟨v,H',h,he⟩
    ·exact .inl h
    rw[h,<-hK1];clear hK1 h;dsimp only;split;rotate_left
    ·exact .inl I
    rename_i hbk;have hq:=Adr _ (.inr hkd);have hB:=hp.B;have back:∀ {rk':Nat->Nat} {hc':Nat->CH},(∀k,dn.testBit k=true->rk' k=rk k)->(∀m,m<=M->hc' m=hc m)->∀j,j<=M->(∀e,isE ops e->D7 an e i=true->rk' e<j)->
      (H'.n=Nat.add n0 i->OpP P T F0.m o ⟨(hc' j).h,Nat.add n0 i⟩ v)/\(H'.n≠Nat.add n0 i->OpD P T F0.m o ⟨(hc' j).h,Nat.add n0 i⟩ v):=λ{rk' hc'} hr hh j hj hje=>by
     rw[hh j hj];rcases Pj j M with hlt|hge
     ·obtain⟨hl,hes⟩:=hp.esf;obtain⟨p,hq2⟩:∃p,es[M- 1- j]? =some p:=⟨_,A8 tqO⟩;obtain⟨f1,f2,f3,f4⟩:=hes _ p hq2;have:=GP (P:=P) (T:=T) (m:=F0.m) hok hq es hbk (M- 1- j) p hq2 λq' p' hq' hp'=>by
       obtain⟨g1,g2,g3,_⟩:=hes q' p' hp';cases hx:D7 an p'.1 i with
       |false=>rfl
       |true=>
        have:=hje p'.1 g2 hx;rw[hr p'.1 g1] at this;omega
      have e1:p.2=hc j:=by rw[f4];congr 1;omega
      rw[e1] at this;exact this
     ·have:j=M:=Nat.le_antisymm hj hge;subst this;rw[<-hB];exact⟨λhn=>he.2.1 hq hn,λhn=>he.2.2 hq hn⟩
    split
    ·rename_i hn;have hn:=Bq hn;refine quiet (bo:=none) hE I (λk=>by rw[Ar tqS]) λval' blk' rk' hc' hA e1 e2 e3=>⟨λh=>(nomatch h),λ_=>⟨T,hp.rst hcl ho hnd hanc hA.v hT,?_⟩⟩;unfold KdS;simp only[hkd];rw[e1,e3];exact .inl ⟨e2,λj hj hje=>(back hA.r hA.h j hj hje).1 hn⟩
    ·rename_i hn;have hn:H'.n≠Nat.add n0 i:=Kl hn;rcases Tr.put_spec z Bk.d H.h (Nat.add n0 i) (λh=>Iv z o.dst v F λF=>Ra P z ih ops an n0 K l (H6 pd i) (H6 dn i) F ⟨h,H.n⟩ B es) with h|⟨h',h,hh⟩
     ·exact .inl h
     rw[h];refine quiet (bo:=some .d) (H1:=⟨h',H.n⟩) hE I (λk=>by
      rw[hh];by_cases e:k=Nat.add n0 i
      ·rw[Bi e,Bi ⟨I,e⟩]
      ·rw[Ar e,Ar λh=>e h.2]) λval' blk' rk' hc' hA e1 e2 e3=>⟨λh=>(nomatch h),λ_=>⟨T,hp.rst hcl ho hnd hanc hA.v hT,?_⟩⟩
     unfold KdS;simp only[hkd];rw[e1,e3];exact .inr ⟨e2,λj hj hje=>(back hA.r hA.h j hj hje).2 hn⟩
  |n=>
   have hE:Jp o=false:=by unfold Jp;rw[hkd]
   dsimp only;cases b with
   |false=>exact quiet (bo:=none) hE I (λk=>by rw[Ar tqS]) λval' blk' rk' hc' hA e1 e2 e3=>⟨λ_=>⟨I,I⟩,λh=>nomatch h⟩
   |true=>
    dsimp only;unfold QO;generalize hK1:(λT:Tr Value=>_)=K1;rcases Qw (z:=z) (T:=F.T) o.op.operands.toList .lf K1 with h|⟨T,h,t1,t2⟩
    ·exact .inl h
    rw[h,<-hK1];clear hK1 h;have hT:=AJ t1 t2;dsimp only;generalize hK1:(λ(v:Value) (b:Bk)=>_)=K1;rcases Ady (P:=P) (z:=z) (T:=T) (m:=F0.m) hok (k:=Nat.add n0 i) (K:=K1) with h|⟨v,bk,h,he⟩
    ·exact .inl h
    rw[h,<-hK1];clear hK1 h;dsimp only;rcases Tr.put_spec z bk H.h (Nat.add n0 i) (λh=>Iv z o.dst v F λF=>Ra P z ih ops an n0 K l (H6 pd i) (H6 dn i) F ⟨h,H.n⟩ B es) with h|⟨h',h,hh⟩
    ·exact .inl h
    rw[h];refine quiet (bo:=some bk) (H1:=⟨h',H.n⟩) hE I (λk=>by
     rw[hh];by_cases e:k=Nat.add n0 i
     ·rw[Bi e,Bi ⟨I,e⟩]
     ·rw[Ar e,Ar λh=>e h.2]) λval' blk' rk' hc' hA e1 e2 e3=>⟨λh=>(nomatch h),λ_=>⟨T,hp.rst hcl ho hnd hanc hA.v hT,?_⟩⟩
    unfold KdS;simp only[hkd];rw[e1];exact⟨bk,e2,he⟩
theorem ZO (hm:P.follows .mixedOrders=true) (hs:Lf P z ih) (ops:Array Oper) (F:Fr) (H:CH) (K:E5 β):Z5 P z ih ops F H K=z\/∃e F' H',Z5 P z ih ops F H K=K e F' H'/\YW P ops F H e F' H':=by
 unfold Z5;split;rotate_left
 ·exact .inl I
 rename_i hd;obtain⟨hcl,hac,hopk⟩:=Anr hd;have pre:Pre ops (MT ops.toList) H.n F (λ_=>undef) (λ_=>none) (λ_=>0) (λ_=>⟨H.h,Nat.add H.n ops.size⟩) 0 0 0 F ⟨H.h,Nat.add H.n ops.size⟩ ⟨H.h,Nat.add H.n ops.size⟩ []:=
  ⟨λi h=>by simp at h,λi o t h=>by simp at h,λ_ _=>I,⟨I,I,I⟩,I,I,λi b h=>by simp at h,λ_ _=>I,λi k h=>by simp at h,⟨I,λq p h=>by simp at h⟩,λe h=>by simp at h,λi h=>by simp at h,λi e h=>by simp at h,λi h=>by simp at h,λi h=>by simp at h⟩
 rcases BY (K:=K) hs hcl hopk (OQ ops.toList (MT ops.toList)) 0 0 F _ _ [] _ _ _ _ 0 pre with h|⟨F1,H1,val,blk,rk,hc,M,h,hA,hO,pd,dn,B,es,hdn,hp⟩
 ·exact .inl h
 refine .inr ⟨.normal,F1,H1,h,hp.fr.2.2,λid r nn al G0 a w Q hq hf hS hT=>?_⟩;have e1:dn=2 ^ ops.size- 1:=by omega
 have all:∀(i:Nat) (o:Oper),ops[i]? =some o->dn.testBit i=true:=λi o ho=>by
  have:=(B5.1 ho).1;rw[e1,Pu];simpa using this
 have allE:∀e,isE ops e->dn.testBit e=true:=λe ⟨o,ho,_⟩=>all e o ho;have plan:Plan P ops (MT ops.toList) H.n F.T F.m val blk rk hc M F1.T H1:=by
  refine⟨λi o ho=>hO i o ho tqS,λi o e ho he hne hr=>hp.ord i e (all i o ho) (allE e he) he hne hr,λe he=>(hp.top e (allE e he) he).1,λj hj=>?_,λi o t ho hd=>hp.slot1 i o t (all i o ho) ho hd,λt ht=>hp.slot2 t λi o _=>ht i o,hp.n,λi b o ho hb hbk=>?_,λk hk=>?_⟩
  ·obtain⟨hl,hes⟩:=hp.esf;obtain⟨p,hq2⟩:∃p,es[M- 1- j]? =some p:=⟨_,A8 tqO⟩;obtain⟨f1,f2,f3,f4⟩:=hes _ p hq2;exact⟨p.1,f2,tqO⟩
  ·refine hp.h1 i b ?_ hbk;cases hx:pd.testBit i with
   |true=>rfl
   |false=>
    obtain⟨e,h1,h2,h3⟩:=hp.pd2 i (all i o ho) hx;exact absurd ⟨e,h2,(hp.top e h1 h2).1,h3⟩ hb
  ·refine hp.h2 k λi e hi=>?_;obtain⟨h1,h2⟩:=hp.pd1 i hi;obtain⟨o,ho⟩:=hp.ex i h1;refine hk i o e ho λ⟨e',h3,h4,h5⟩=>?_;obtain⟨h6,h7⟩:=h2 e' (allE e' h3) h3;rcases h5 with h5|h5
   ·exact h7 h5
   ·rw[h6] at h5;cases h5
 exact Agk hm hac hcl plan ⟨hp.fr.1,hp.fr.2.1⟩ (hA.h 0 (Ak _)) id r nn al G0 a w Q hf hS hT
end
section
variable {P:Program} {β:Type} {z:β} {cau:FuncId->Bool} {te:TypeId} {kn:Kn}
theorem ev_sound (hm:P.follows .mixedOrders=true) (hkn:KnS P kn) (hcau:∀g,cau g=true->Jh P g/\Ld P g te te):∀f,Lf P z (ev P z cau te kn f)
 |0=>λ_ _ _ _=>.inl I
 |f+1=>Abw (ev_sound hm hkn hcau f) hkn hcau λops F H K=>ZO hm (ev_sound hm hkn hcau f) ops F H K
end
theorem WA {P:Program} {cau:FuncId->Bool} {te:TypeId} {kn:Kn} {g:FuncId} {fuel:Nat} (hs:Lf P false (ev P false cau te kn fuel))
  (h:(ev P false cau te kn fuel (.fn g []) noF ⟨.lf,0⟩ λe _ _=>match e with
   | .val (.bool b)=>b
   |_=>false)=true) (w:World) (R:Ending->World->Prop)
  (hR:∀w',w'.os=w.os->w'.tape=w.tape->w'.output=w.output->w.heap.size<=w'.heap.size->(∀b,b<w.heap.size->w'.heap[b]? =w.heap[b]?)->R (.returned (.bool true)) w'):Calls P g #[] w R:=by
 rcases hs (.fn g []) noF ⟨.lf,0⟩ (λe _ _=>match e with
   | .val (.bool b)=>b
   |_=>false) with h1|⟨e,F',H',h1,hfn⟩
 ·rw[h] at h1;cases h1
 ·rw[h] at h1;split at h1
  ·rename_i b;subst h1;refine(Fz (n:=8)).1 ?_;have:=hfn none 8 (λ_=>False) (λ_=>⟨0,0,0,0,0⟩) #[] w R (λG _=>I) ⟨λ_ h=>h.elim,λk b hk=>by simp at hk,λG _=>⟨λk b hk=>by simp at hk,λk k' b b' hk=>by simp at hk⟩⟩
    (λal' G' w' t1 _ u hu=>by
     have hu1:=hu G' .rfl;subst hu1;exact hR w' t1.os t1.tape t1.output t1.size λb hb=>t1.keep b hb λ⟨k,x,hk,_⟩=>by simp at hk) (.inl ⟨_,I⟩)
   exact this
  ·cases h1
theorem cm_of_ev {P:Program} {cau:FuncId->Bool} {te:TypeId} {kn:Kn} {g:FuncId} {fuel:Nat} (hs:Lf P false (ev P false cau te kn fuel))
  (h:(ev P false cau te kn fuel (.fn g []) noF ⟨.lf,0⟩ λe _ _=>match e with
   | .val (.bool b)=>b
   |_=>false)=true):Cm P g [] [] [] (Bd (.bool true)):=λA w _ _ hA _=>
 WA hs h w _ λw' h1 h2 h3 h4 h5=>⟨[],[],⟨I,I⟩,⟨h1,h2,h3,h4,λb hb _=>h5 b hb⟩,I,λi x c hx=>by simp at hx,A,λb hb=>.inl hb,λb hb=>Aw (hA b hb) h4,λf hf=>by cases hf⟩
end Go.Proofs.YtjofafbkkpdgbaaGreat.Ck
