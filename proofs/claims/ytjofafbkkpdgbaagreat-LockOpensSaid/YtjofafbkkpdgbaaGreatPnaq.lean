/- A part of the proof of LockOpens: rules and contracts. No condition. -/
import Derived.Test.YtjofafbkkpdgbaaGreatPnap
set_option maxRecDepth 100000
set_option maxHeartbeats 4000000
set_option linter.all false
namespace Go.Proofs.YtjofafbkkpdgbaaGreat
open Go.Proofs.Tryz
open Go.RowKit Go.Shelf
section
variable {X:Fx} {o:Oper} {T:TE} {L:LE} {n:Nat} {F:List Fact} {D:DF} {K:KK} {k:KS}
theorem TG {cl:Call} {x y:Operand} {t t' e:TypeId} {sz by_ q d:Nat} {zs:List Nat} {z:Int} (ho:o.op=.call cl) (hcl:cl.callee=.builtin .append) (hargs:cl.args.toList=[x,y]) (htys:cl.argTypes.toList=[t,t']) (htn:KM X.P t'=true)
  (hx:evS T x=some (.o (.v (.slice none 0 0)))) (hy:evS T y=some (.o (.v (.int .i64 z)))) (hz:z=(q:Int)) (hel:Ah X.tab.el t=some (e,sz)) (hze:Ah X.tab.ze e=some zs) (hzl:zs.length=sz) (hsz:0<sz) (hby:Ah X.tab.by_ e=some by_) (hdst:o.dst=some d) (hd:Nat.blt d X.k=true)
  (hq:0<q) (hcap:q*by_<=140737488355328) (h63:q<=maxLen)
  (h:∀a' c' junk,junk.length=q*sz->k ((d,.o (.v (.slice a' q c')))::T) ((n,.own (.slice a' q c') e sz q junk)::L) (n+1) F D):OJs X o T L n F D k K:=by
 subst hz;intro Q hQ Φ hΦ a w hr;obtain⟨A,ρ,h0⟩:=hr.one;refine Oper.wpIn_of_run (by simp[Cw,ho]) ?_;obtain⟨ht,i,hi,his⟩:=Jg (X.ok.el _ _ hel);obtain⟨i',zv,hi',hz1,hz2⟩:=Ts (X.ok.ze _ _ hze);obtain⟨kn,htk⟩:=OO htn;simp only at ht hi his;rw[hi] at hi';cases hi';have hyb:i.bytes=by_:=by
  have:=X.ok.by_ _ _ hby;unfold tyY at this;rw[hi] at this;simpa using this
 have hzs:zv.cells.size=sz:=by rw[hz2 ρ];simp[C4,Nz,hzl]
 have ha1:cl.args= #[x,y]:=Cn hargs;have ha2:cl.argTypes= #[t,t']:=Cn htys;have hv:a.eval x=.slice none 0 0:=h0.ev hx;have hu:a.eval y=.int .i64 q:=h0.ev hy;have hsm:q<=9223372036854775807:=by simp only[maxLen] at h63;omega
 have hrun:=Lib.run_append_grow_zeros (P:=X.P) w t t' o.type e i zv .i64 kn ht htk hi hz1 none 0 0 [] (run_firstCells_none w.drew i.size 0 0 0) q hq tqO tqO tqO (by rw[hyb];omega) (Sk tqO (by rw[hyb,Bl];exact hcap));rw[Bl] at hrun;have e1:(execOp a.eval o).run X.P w=.ok (.value (.slice (some ⟨w.heap.size,0,none⟩) q (grownCap w q 0 e))) (w.drew.alloc (.cells (([]:List Value).toArray++Builtin.zeroCells zv.cells q++Builtin.zeroCells zv.cells (grownCap w q 0 e- q)) e)):=by
  simp only[execOp,ho,resolve,hcl,ha1,ha2,L8,Bj,E4,hv,hu,Ba,Bh,An,invoke,builtin,hrun]
 rw[e1];have hcg:=W3 w q 0 e;refine hΦ _ _ _ _ _ (h (some ⟨w.heap.size,0,none⟩) (grownCap w q 0 e) (Builtin.zeroCells zv.cells q).toList (by simp[Builtin.zeroCells,hzs])) _ _ ((hr.newRow (v:=.slice (some ⟨w.heap.size,0,none⟩) q (grownCap w q 0 e)) ?_ ?_).put (u:=.o (.v (.slice (some ⟨w.heap.size,0,none⟩) q (grownCap w q 0 e)))) (λ_ _ _=>I) (by simp[E7,hdst,hd]))
 ·exact(P5 (Ga _ w)).alloc (Ak _) _
 ·refine⟨by simp[Builtin.zeroCells,hzs],.inr ⟨w.heap.size,grownCap w q 0 e,_,I,Ak _,heap_alloc_new w.drew _,hcg,grownCap_le_maxLen _ _ _ _ h63,?_,?_⟩⟩
  ·simp only[Array.size_append,E9,Ep,Sy,hzs];rw[Bl,<-Fl]
   congr 1
   omega
  ·simp only[Kk];rw[C0,Dm]
   ·simp
   ·simp[Builtin.zeroCells,hzs]
   ·simp[Builtin.zeroCells,hzs]
end
section
variable {X:Fx} {T:TE} {L:LE} {n:Nat} {F:List Fact} {D:DF}
theorem ZS {ρ:Nm} {m:Nat} {res:List ResultVar} {Out:Ku} (F':List Fact) (hF:∀A w,(∀f∈F,f.h A w)->∀f∈F',f.h A w) (h:DJ ρ m X res Out T L n F' D):DJ ρ m X res Out T L n F D:=λa w hr=>h a w (hr.more λA hA=>hF A w hA)
end
structure Ltr where
 to:Int
 kind:Int
 lock:Int
 site:Int
 stat:Sta
 hop:Int
 use:Int
 mode:Int
 ctr:Ctr
 tok:Tok
 deriving DecidableEq
def X3 (x:Ltr) (p:Sls):List Value:=[.int .i64 x.kind,.int .i64 0,.int .i64 0,.int .i64 0,.int .i64 0,.int .i64 x.lock,.int .i64 x.site,.int .i64 x.stat.over,.bool x.stat.pend,.int .i64 x.stat.mode,.int .i64 x.stat.prio,.int .i64 x.hop,.int .i64 x.use,.int .i64 x.mode,.int .i64 x.ctr.value,.int .i64 x.ctr.floor,.int .u64 x.ctr.version,.int .i64 x.tok.age,.slice p.a1 x.tok.seq.length p.c1,.slice p.a2 x.tok.q.length p.c2,.slice p.a3 x.tok.hs.length p.c3,.int .i64 x.tok.c.value,.int .i64 x.tok.c.floor,.int .u64 x.tok.c.version,.slice none 0 0,.slice none 0 0]
def Hg (q:Ltr×Sls):List Value:=.int .i64 q.1.to::X3 q.1 q.2
theorem Mv:∀q,(Hg q).length=27:=λ_=>I
theorem Rv {qs:List (Ltr×Sls)}:∀u∈qs.flatMap Hg,u.oneCell'=true:=by
 intro u hu;obtain⟨x,_,hx⟩:=Jt.1 hu;simp only[Hg,X3,Ap,Bw,Ed] at hx;rcases hx with rfl|rfl|rfl|rfl|rfl|rfl|rfl|rfl|rfl|rfl|rfl|rfl|rfl|rfl|rfl|rfl|rfl|rfl|rfl|rfl|rfl|rfl|rfl|rfl|rfl|rfl|rfl<;>rfl
def C5 (v:Value) (qs:List (Ltr×Sls)):Fact where
 h A w:=(slF Hg 27 v qs).h A w/\∀q∈qs,∀f∈Bs q.1.tok q.2,f.h A w
 ok:=λhA hw hg h=>⟨(slF _ _ _ _).ok hA hw hg h.1,λq hq f hf=>f.ok hA hw hg (h.2 q hq f hf)⟩
theorem Yx {v:Value} {qs:List (Ltr×Sls)} {A:Nat->Prop} {w:World} (h:(C5 v qs).h A w):(slF Hg 27 v qs).h A w:=h.1
theorem CG {A:Nat->Prop} {w:World}:(C5 (.slice none 0 0) []).h A w:=⟨Kw _ _ _ _,λq hq=>by cases hq⟩
def Ai2 (qs:List (Ltr×Sls)) (mu:List XB) (f:Value->Fact):Ku:=λr Ls F1=>∃a c,r=.inl (.o (.v (.slice a qs.length c)))/\Ls=mu/\F1=[f (.slice a qs.length c)]
theorem Agh (a:Option Addr) (c:Nat) (qs:List (Ltr×Sls)) (x:Ltr×Sls) (h1:qs.length<=100000):Cx prog 291 [.o (.s 0 0 2 2)] [.c [.v (.slice a qs.length c),.s 1 0 1 1] 53,.c ((Hg x).map SV.v) 80] [slF Hg 27 (.slice a qs.length c) qs] (Ai2 (qs++[x]) [.c [.v (.slice a qs.length c),.s 1 0 1 1] 53,.c ((Hg x).map SV.v) 80] λv=>slF Hg 27 v (qs++[x])):=by
 refine tqx func291 ntmps291 ?_;intro ρ w0 A0;refine Hj 3 ?_;refine Au (Ay (i:=0) (hz:=I) (ho:=I) (he:=I) (hx:=I) (hix:=I) (hi:=tqD)) ?_;refine Af (z:=((qs.length:Nat):Int)) ?_;refine Af (z:=1) ?_;refine Au (Ay (i:=1) (hz:=I) (ho:=I) (he:=I) (hx:=I) (hix:=I) (hi:=tqD)) ?_;refine Af (z:=((qs.length+1:Nat):Int)) ?_;refine Af (z:=2) ?_;obtain⟨m,hm⟩:∃m,m=qs.length+1:=⟨_,I⟩;rw[<-hm];refine En func324 ntmps324 ?_;intro w1 A1 M1 N1 hN1;refine B8 (VT I I I I I I) ?_;refine Af (z:=0) ?_;refine Af (z:=((m:Nat):Int)) ?_;refine Ai (λg3=>?_) λg3=>?_;rotate_left
 ·omega
 refine B8 (VT I I I I I I) ?_;refine Mi (i:=0) (hi:=Ak _) ?_;refine TG (q:=m) I I I I tqK I I I I I I tqD I I I tqO tqO tqM ?_;intro a1 c1 junk hj;refine Mi (i:=0) (hi:=Ax _) ?_;refine⟨I,?_⟩;refine Rl (Xw (j:=2) (m':=0) I (Ax _) tqO) ?_;rw[show junk.take (0*27)=[] by simp];refine Hj 3 ?_;refine Au (Ay (i:=0) (hz:=I) (ho:=I) (he:=I) (hx:=I) (hix:=I) (hi:=tqD)) ?_;refine Dq 2 (m:=0) (m':=qs.length) (news:=qs.flatMap Hg) I I I I I I I I I tqD I I I (Qg I tqS Mv) (F8 Mv qs) Rv tqO tqM ?_;intro a2 c2;refine Af (z:=1) ?_;refine Au (Ay (i:=1) (hz:=I) (ho:=I) (he:=I) (hx:=I) (hix:=I) (hi:=tqD)) ?_;refine Dq 2 (m:=0+qs.length) (m':=1) (news:=Hg x) I I I I I I I I I tqD I I I (Uq (news:=Hg x) I I) I (λv hv=>Rv (qs:=[x]) v (by simpa using hv)) tqO tqM ?_;intro a3 c3;refine Af (z:=2) ?_;have hl:0+qs.length+1=(qs++[x]).length:=by rw[Az];simp
 rw[hl];refine DR (D8 (j:=2) (v:=.slice a3 (qs++[x]).length c3) (m:=(qs++[x]).length) (enc:=Hg) (xs:=qs++[x]) (.inr ⟨I,I⟩) Mv I (by rw[Em];simp only[E1,Nj,Bu];rfl)) ?_;exact Dg [0,1] (.o (.v (.slice a3 (qs++[x]).length c3))) [.c [.v (.slice a qs.length c),.s 1 0 1 1] 53,.c ((Hg x).map SV.v) 80] [slF Hg 27 (.slice a3 (qs++[x]).length c3) (qs++[x])] ⟨I,I,trivial⟩ ⟨a3,c3,I,I,I⟩
theorem Af8 (a:Option Addr) (c:Nat) (qs:List (Ltr×Sls)) (x:Ltr×Sls) (h1:qs.length<=100000):Cx prog 237 [.o (.v (.slice a qs.length c)),.o (.s 0 0 1 1)] [.c ((Hg x).map SV.v) 80] (C5 (.slice a qs.length c) qs::Bs x.1.tok x.2) (Ai2 (qs++[x]) [.c ((Hg x).map SV.v) 80] λv=>C5 v (qs++[x])):=by
 refine tqx func237 ntmps237 ?_;intro ρ w0 A0;refine Oq (slF Hg 27 (.slice a qs.length c) qs::C5 (.slice a qs.length c) qs::Bs x.1.tok x.2) (λA w h f hf=>by
  rcases Ap.1 hf with rfl|hf
  ·exact Yx (h (C5 (.slice a qs.length c) qs) (.head _))
  ·exact h f hf) ?_
 refine Cf (mu:=[.c [.v (.slice a qs.length c),.s 1 0 1 1] 53,.c ((Hg x).map SV.v) 80]) [1,0] I7 ⟨I,I,trivial⟩ (Agh a c qs x h1) ?_;rintro r Ls F1 ⟨a1,c1,rfl,rfl,rfl⟩;refine ZS [C5 (.slice a1 (qs++[x]).length c1) (qs++[x])] (λA w h f hf=>by
  rw[Bc] at hf;subst hf;refine⟨h _ (.head _),λq hq f hf=>?_⟩;rcases B4.1 hq with hq|hq
  ·exact(h (C5 (.slice a qs.length c) qs) tqS).2 q hq f hf
  ·cases Bc.1 hq;exact h f (by simp[hf])) ?_
 exact Dg [0] (.o (.v (.slice a1 (qs++[x]).length c1))) [.c ((Hg x).map SV.v) 80] [C5 (.slice a1 (qs++[x]).length c1) (qs++[x])] ⟨I,trivial⟩ ⟨a1,c1,I,I,I⟩
def JI (x:Lck) (p:LckS) (pl:Plc) (tv lv:Value):List Value:=[.bool x.tree,.bool x.has,.int .i64 x.tok.age,.slice p.tok.a1 x.tok.seq.length p.tok.c1,.slice p.tok.a2 x.tok.q.length p.tok.c2,.slice p.tok.a3 x.tok.hs.length p.tok.c3,.int .i64 x.tok.c.value,.int .i64 x.tok.c.floor,.int .u64 x.tok.c.version,.int .i64 x.last,.int .i64 x.own.node,.int .i64 x.own.hop,.slice p.a4 x.known.length p.c4,.slice p.a5 x.slots.length p.c5,tv,.int .i64 pl.n,.int .i64 pl.l,.int .i64 pl.s,.int .i64 pl.me,.int .i64 pl.lock,.int .i64 pl.limit,.int .i64 pl.retry,.int .i64 pl.far,.int .i64 pl.now,.bool pl.still,lv]
def Gl (x:Lck) (p:LckS) (pl:Plc) (k m:Nat) (lv:Value):List SV:=[.v (.bool x.tree),.v (.bool x.has),.v (.int .i64 x.tok.age),.v (.slice p.tok.a1 x.tok.seq.length p.tok.c1),.v (.slice p.tok.a2 x.tok.q.length p.tok.c2),.v (.slice p.tok.a3 x.tok.hs.length p.tok.c3),.v (.int .i64 x.tok.c.value),.v (.int .i64 x.tok.c.floor),.v (.int .u64 x.tok.c.version),.v (.int .i64 x.last),.v (.int .i64 x.own.node),.v (.int .i64 x.own.hop),.v (.slice p.a4 x.known.length p.c4),.v (.slice p.a5 x.slots.length p.c5),.s k 0 m p.c6,.v (.int .i64 pl.n),.v (.int .i64 pl.l),.v (.int .i64 pl.s),.v (.int .i64 pl.me),.v (.int .i64 pl.lock),.v (.int .i64 pl.limit),.v (.int .i64 pl.retry),.v (.int .i64 pl.far),.v (.int .i64 pl.now),.v (.bool pl.still),.v lv]
theorem Zf (x:Lck) (p:LckS) (pl:Plc) (tv lv:Value) (b:Nat) (k:Int) (h1:0<=pl.me*pl.s/\pl.me*pl.s<=1000000) (h2:0<=k/\k<=1000000):Cm prog 64 [.pointer (some ⟨b,0,none⟩),.int .i64 k] [] [B9 b (JI x p pl tv lv) 116] (Bd (.int .i64 (pl.me*pl.s+k))):=by
 refine tqm [.o (.v (.pointer (some ⟨b,0,none⟩))),.o (.v (.int .i64 k))] func64 ntmps64 λ_ _=>?_;refine Ao [] (tqs 0 14<| .op 14 .z) [] [] [] [B9 b (JI x p pl tv lv) 116] λ_=>?_;refine⟨_,Jb (v:=.int .i64 pl.me) (cs:=JI x p pl tv lv) (b:=b) (ct:=116),?_⟩;refine⟨_,Jb (v:=.int .i64 pl.s) (cs:=JI x p pl tv lv) (b:=b) (ct:=116),?_⟩;refine⟨_,Cb (z:=pl.me*pl.s) (ho:=I) (hx:=I) (hy:=I) (hr:=I) (hz:=by rw[Ey]<;>omega),?_⟩;refine⟨_,Cb (z:=pl.me*pl.s+k) (ho:=I) (hx:=I) (hy:=I) (hr:=I) (hz:=by rw[Ey]<;>omega),?_⟩;exact tqE
variable {s:Int}
theorem NS {z:Int} (hz:0<=z/\z<=1000000) (hs:1<=s): -9223372036854775808<=z.tdiv s/\z.tdiv s<=9223372036854775807:=by
 have h1:=Int.tdiv_nonneg hz.1 (by omega:0<=s);have h2:=Int.tdiv_le_self s hz.1;omega
theorem Ul (x:Lck) (p:LckS) (pl:Plc) (tv lv:Value) (b:Nat) (z:Int) (h1:1<=pl.s) (h2:0<=z/\z<=1000000):Cm prog 88 [.pointer (some ⟨b,0,none⟩),.int .i64 z] [] [B9 b (JI x p pl tv lv) 116] (Bd (.int .i64 (z.tdiv pl.s))):=by
 have hd:=NS h2 h1;refine tqm [.o (.v (.pointer (some ⟨b,0,none⟩))),.o (.v (.int .i64 z))] func88 ntmps88 λ_ _=>?_;refine Eu (cs:=JI x p pl tv lv) (b:=b) (ct:=116) ?_;refine B8 (L5 (r:=z.tdiv pl.s) tqO hd.1 hd.2 I I I I) ?_;exact tqE
def Gj (pl:Plc) (to:Int) (y:Ltr):Ltr:= {y with to:=to,lock:=pl.lock}
def Ajc (x:Lck) (p:LckS) (pl:Plc) (m:Nat) (hs:List Value) (qs:List (Ltr×Sls)):Ku:=λr Ls F1=>∃a c,r=.inl (.t [])/\Ls=[.c (Gl x p pl 1 m (.slice a qs.length c)) 116,.r hs 104]/\F1=[C5 (.slice a qs.length c) qs]
theorem Afe (x:Lck) (p:LckS) (pl:Plc) (m:Nat) (hs:List Value) (a:Option Addr) (c:Nat) (qs:List (Ltr×Sls)) (to:Int) (y:Ltr) (s:Sls) (hq:qs.length<=100000):Cx prog 158 [.o (.p 0 0),.o (.v (.int .i64 to)),.g ((X3 y s).map SV.v)] [.c (Gl x p pl 1 m (.slice a qs.length c)) 116,.r hs 104] (C5 (.slice a qs.length c) qs::Bs y.tok s) (Ajc x p pl m hs (qs++[(Gj pl to y,s)])):=by
 refine tqx func158 ntmps158 ?_;intro ρ w0 A0;refine Ao [7,8,9,12] (tqs 0 12<| .op 12 .z) [0,2] [(12,0)] [] [] λ_=>?_;refine tqQ<|tqQ<|Cf (mu:=[.c ((Hg (Gj pl to y,s)).map SV.v) 80]) [3] I7 ⟨I,trivial⟩ (Af8 a c qs (Gj pl to y,s) hq) ?_;rintro r Ls F1 ⟨a1,c1,rfl,rfl,rfl⟩;exact tqQ<|tqQ<|Dg [0,1] (.t []) [.c (Gl x p pl 1 m (.slice a1 (qs++[(Gj pl to y,s)]).length c1)) 116,.r hs 104] [C5 (.slice a1 (qs++[(Gj pl to y,s)]).length c1) (qs++[(Gj pl to y,s)])] ⟨I,I,trivial⟩ ⟨a1,c1,I,I,I⟩
def Je:Sta:=⟨0,false,0,0⟩
def MW:Ctr:=⟨0,0,0⟩
def G8 (x:Lck) (pl:Plc) (h:Hd):Ltr:=⟨h.site.tdiv pl.s,3,pl.lock,h.site,Je,x.tok.age,h.use,h.mode,x.tok.c,Fd⟩
theorem SI (x:Lck) (p:LckS) (pl:Plc) (m:Nat) (hs:List Value) (a:Option Addr) (c:Nat) (qs:List (Ltr×Sls)) (h:Hd) (hq:qs.length<=100000) (h1:1<=pl.s) (h2:0<=h.site/\h.site<=1000000):Cx prog 90 [.o (.p 0 0),.g ((hdL h).map SV.v)] [.c (Gl x p pl 1 m (.slice a qs.length c)) 116,.r hs 104] [C5 (.slice a qs.length c) qs] (Ajc x p pl m hs (qs++[(G8 x pl h,Dx)])):=by
 refine tqx func90 ntmps90 ?_;intro ρ w0 A0;have hS:=Afe x p pl m hs a c qs (h.site.tdiv pl.s) ⟨0,3,0,h.site,Je,x.tok.age,h.use,h.mode,x.tok.c,Fd⟩ Dx hq;rw[show Gj pl (h.site.tdiv pl.s) ⟨0,3,0,h.site,Je,x.tok.age,h.use,h.mode,x.tok.c,Fd⟩=G8 x pl h from I] at hS;refine Ao [4,16,22,24] (tqs 0 4<| tqs 5 11<| tqs 17 5<| .alt (.op 4<|.alt (.op 16<|.op 22<|.op 23<|.op 24 .z) (.op 22<|.op 16<|.op 23<|.op 24 .z)) (.alt (.op 16<|.alt (.op 4<|.op 22<|.op 23<|.op 24 .z) (.op 22<|.op 23<|.op 4<|.op 24 .z)) (.op 22<|.alt (.op 4<|.op 16<|.op 23<|.op 24 .z) (.op 16<|.op 23<|.op 4<|.op 24 .z)))) [0,2] [(24,0)] [] [] λ_=>?_;refine⟨?_,?_⟩
 ·refine Aj (F0:=[]) [0] [] I7 (λρ=>Ul x p pl (.slice (some ⟨ρ 1,0,none⟩) m p.c6) (.slice a qs.length c) (ρ 0) h.site h1 h2) (hno:=.inr tqH) ?_;rintro e cs F1 _ ⟨rfl,rfl⟩;refine tqQ ?_;refine⟨?_,?_⟩
  ·refine tqQ<|tqQ<|⟨_,Ee,?_⟩;refine Oq (C5 (.slice a qs.length c) qs::Bs Fd Dx) (λA w hh f hf=>by
    rcases Ap.1 hf with rfl|hf
    ·exact hh _ tqS
    ·exact Ib f hf) ?_
   refine Cf (mu:=[.c (Gl x p pl 1 m (.slice a qs.length c)) 116,.r hs 104]) [0,1] I7 ⟨I,I,trivial⟩ hS ?_;rintro r Ls F1 ⟨a1,c1,rfl,rfl,rfl⟩;exact tqQ<|Dg [0,1] (.t []) [.c (Gl x p pl 1 m (.slice a1 (qs++[(G8 x pl h,Dx)]).length c1)) 116,.r hs 104] [C5 (.slice a1 (qs++[(G8 x pl h,Dx)]).length c1) (qs++[(G8 x pl h,Dx)])] ⟨I,I,trivial⟩ ⟨a1,c1,I,I,I⟩
  ·refine tqQ<|tqQ<|⟨_,Ee,?_⟩;refine Oq (C5 (.slice a qs.length c) qs::Bs Fd Dx) (λA w hh f hf=>by
    rcases Ap.1 hf with rfl|hf
    ·exact hh _ tqS
    ·exact Ib f hf) ?_
   refine Cf (mu:=[.c (Gl x p pl 1 m (.slice a qs.length c)) 116,.r hs 104]) [0,1] I7 ⟨I,I,trivial⟩ hS ?_;rintro r Ls F1 ⟨a1,c1,rfl,rfl,rfl⟩;exact tqQ<|Dg [0,1] (.t []) [.c (Gl x p pl 1 m (.slice a1 (qs++[(G8 x pl h,Dx)]).length c1)) 116,.r hs 104] [C5 (.slice a1 (qs++[(G8 x pl h,Dx)]).length c1) (qs++[(G8 x pl h,Dx)])] ⟨I,I,trivial⟩ ⟨a1,c1,I,I,I⟩
 refine⟨?_,?_⟩
 ·refine tqQ ?_;refine⟨?_,?_⟩
  ·refine Aj (F0:=[]) [0] [] I7 (λρ=>Ul x p pl (.slice (some ⟨ρ 1,0,none⟩) m p.c6) (.slice a qs.length c) (ρ 0) h.site h1 h2) (hno:=.inr tqH) ?_;rintro e cs F1 _ ⟨rfl,rfl⟩;refine tqQ<|tqQ<|⟨_,Ee,?_⟩;refine Oq (C5 (.slice a qs.length c) qs::Bs Fd Dx) (λA w hh f hf=>by
    rcases Ap.1 hf with rfl|hf
    ·exact hh _ tqS
    ·exact Ib f hf) ?_
   refine Cf (mu:=[.c (Gl x p pl 1 m (.slice a qs.length c)) 116,.r hs 104]) [0,1] I7 ⟨I,I,trivial⟩ hS ?_;rintro r Ls F1 ⟨a1,c1,rfl,rfl,rfl⟩;exact tqQ<|Dg [0,1] (.t []) [.c (Gl x p pl 1 m (.slice a1 (qs++[(G8 x pl h,Dx)]).length c1)) 116,.r hs 104] [C5 (.slice a1 (qs++[(G8 x pl h,Dx)]).length c1) (qs++[(G8 x pl h,Dx)])] ⟨I,I,trivial⟩ ⟨a1,c1,I,I,I⟩
  ·refine tqQ<|⟨_,Ee,?_⟩;refine Aj (F0:=[]) [0] [] I7 (λρ=>Ul x p pl (.slice (some ⟨ρ 1,0,none⟩) m p.c6) (.slice a qs.length c) (ρ 0) h.site h1 h2) (hno:=.inr tqH) ?_;rintro e cs F1 _ ⟨rfl,rfl⟩;refine tqQ<|Oq (C5 (.slice a qs.length c) qs::Bs Fd Dx) (λA w hh f hf=>by
    rcases Ap.1 hf with rfl|hf
    ·exact hh _ tqS
    ·exact Ib f hf) ?_
   refine Cf (mu:=[.c (Gl x p pl 1 m (.slice a qs.length c)) 116,.r hs 104]) [0,1] I7 ⟨I,I,trivial⟩ hS ?_;rintro r Ls F1 ⟨a1,c1,rfl,rfl,rfl⟩;exact tqQ<|Dg [0,1] (.t []) [.c (Gl x p pl 1 m (.slice a1 (qs++[(G8 x pl h,Dx)]).length c1)) 116,.r hs 104] [C5 (.slice a1 (qs++[(G8 x pl h,Dx)]).length c1) (qs++[(G8 x pl h,Dx)])] ⟨I,I,trivial⟩ ⟨a1,c1,I,I,I⟩
 ·refine tqQ ?_;refine⟨?_,?_⟩
  ·refine Aj (F0:=[]) [0] [] I7 (λρ=>Ul x p pl (.slice (some ⟨ρ 1,0,none⟩) m p.c6) (.slice a qs.length c) (ρ 0) h.site h1 h2) (hno:=.inr tqH) ?_;rintro e cs F1 _ ⟨rfl,rfl⟩;refine tqQ<|tqQ<|⟨_,Ee,?_⟩;refine Oq (C5 (.slice a qs.length c) qs::Bs Fd Dx) (λA w hh f hf=>by
    rcases Ap.1 hf with rfl|hf
    ·exact hh _ tqS
    ·exact Ib f hf) ?_
   refine Cf (mu:=[.c (Gl x p pl 1 m (.slice a qs.length c)) 116,.r hs 104]) [0,1] I7 ⟨I,I,trivial⟩ hS ?_;rintro r Ls F1 ⟨a1,c1,rfl,rfl,rfl⟩;exact tqQ<|Dg [0,1] (.t []) [.c (Gl x p pl 1 m (.slice a1 (qs++[(G8 x pl h,Dx)]).length c1)) 116,.r hs 104] [C5 (.slice a1 (qs++[(G8 x pl h,Dx)]).length c1) (qs++[(G8 x pl h,Dx)])] ⟨I,I,trivial⟩ ⟨a1,c1,I,I,I⟩
  ·refine tqQ<|⟨_,Ee,?_⟩;refine Aj (F0:=[]) [0] [] I7 (λρ=>Ul x p pl (.slice (some ⟨ρ 1,0,none⟩) m p.c6) (.slice a qs.length c) (ρ 0) h.site h1 h2) (hno:=.inr tqH) ?_;rintro e cs F1 _ ⟨rfl,rfl⟩;refine tqQ<|Oq (C5 (.slice a qs.length c) qs::Bs Fd Dx) (λA w hh f hf=>by
    rcases Ap.1 hf with rfl|hf
    ·exact hh _ tqS
    ·exact Ib f hf) ?_
   refine Cf (mu:=[.c (Gl x p pl 1 m (.slice a qs.length c)) 116,.r hs 104]) [0,1] I7 ⟨I,I,trivial⟩ hS ?_;rintro r Ls F1 ⟨a1,c1,rfl,rfl,rfl⟩;exact tqQ<|Dg [0,1] (.t []) [.c (Gl x p pl 1 m (.slice a1 (qs++[(G8 x pl h,Dx)]).length c1)) 116,.r hs 104] [C5 (.slice a1 (qs++[(G8 x pl h,Dx)]).length c1) (qs++[(G8 x pl h,Dx)])] ⟨I,I,trivial⟩ ⟨a1,c1,I,I,I⟩
def Qn (now:Int) (t:Try):Try:= {t with heard:=now}
def K9 (x:Lck) (to now:Int):Lck:= {x with has:=false,tok:= {x.tok with age:=x.tok.age+1},last:=x.tok.age+1,own:=⟨to,x.tok.age+1⟩,tries:=x.tries.map (Qn now)}
def Of (x:Lck) (pl:Plc) (to:Int):Ltr:=⟨to,4,pl.lock,0,Je,0,0,0,MW,(K9 x to pl.now).tok⟩
variable {α:Type}
def X2 (f:α->α) (k:Nat) (xs:List α):List α:=(xs.take k).map f++xs.drop k
variable {xs:List α}
theorem NC {f:α->α} {k:Nat} {x:α} (hx:xs[k]? =some x):(X2 f k xs)[k]? =some x:=by
 have hi:=(Aa.1 hx).1;unfold X2;rw[Dp (by rw[Cr,Am];omega),Cr,Am,E3,show k+(k- min k xs.length)=k by omega,hx]
theorem DZ {f:α->α} {k:Nat} {x:α} (hx:xs[k]? =some x):X2 f (k+1) xs=(X2 f k xs).set k (f x):=by
 have hk:=(Aa.1 hx).1;unfold X2;rw[Dl,hx,D6,Cp];have h2:xs.drop k=x::xs.drop (k+1):=by rw[H7 hk,(Aa.1 hx).2]
 rw[h2,Pi (h:=by rw[Cr,Am];omega),Cr,Am,C1 tqO,Le];rfl
theorem EA {f:α->α}:X2 f 0 xs=xs:=by simp[X2]
theorem IP {f:α->α}:X2 f xs.length xs=xs.map f:=by simp[X2]
def Anq (x:Lck) (p:LckS) (pl:Plc) (to:Int) (junk:List Value) (qs:List (Ltr×Sls)):Ku:=λr Ls F1=>∃a c s,r=.inl (.t [])/\Ls=[.c (Gl (K9 x to pl.now) p pl 1 x.tries.length (.slice a (qs++[(Of x pl to,s)]).length c)) 116,.r ((K9 x to pl.now).tries.flatMap Bz++junk) 104]/\F1=[C5 (.slice a (qs++[(Of x pl to,s)]).length c) (qs++[(Of x pl to,s)])]
theorem Aly (x:Lck) (p:LckS) (pl:Plc) (junk:List Value) (a:Option Addr) (c:Nat) (qs:List (Ltr×Sls)) (to:Int) (hx:x.small) (hq:qs.length<=100000) (ha:0<=x.tok.age/\x.tok.age<=1099511627776):Cx prog 86 [.o (.p 0 0),.o (.v (.int .i64 to))] [.c (Gl x p pl 1 x.tries.length (.slice a qs.length c)) 116,.r (x.tries.flatMap Bz++junk) 104] (C5 (.slice a qs.length c) qs::Bs x.tok p.tok) (Anq x p pl to junk qs):=by
 refine tqx func86 ntmps86 ?_;intro ρ w0 A0;refine Af (z:=x.tok.age+1) ?_;refine Ao [20,24,28] (tqs 0 28<| .op 28 .z) [0] [(20,0),(24,0),(28,0)] [] [] λ_=>?_;refine⟨_,Ee,?_⟩;refine tqQ<|tqQ<|tqQ<|K5 [(49,.o (.v (.int .i64 0))),(48,.o (.v (.int .i64 x.tries.length))),(0,.o (.p 0 0)),(1,.o (.v (.int .i64 to)))] [(0,.c (Gl (K9 x to pl.now) p pl 1 x.tries.length (.slice a qs.length c)) 116),(1,D9 (x.tries.flatMap Bz++junk) 104)] 2 (C5 (.slice a qs.length c) qs::Bs x.tok p.tok) Ac ?_;have hml:x.tries.length<=1000000:=hx.2.2.2;refine Br (γ:=Nat) (λk=>k<=x.tries.length) (λk=>[(49,.o (.v (.int .i64 k)))]) (λk=>[(1,D9 ((X2 (Qn pl.now) k x.tries).flatMap Bz++junk) 104)]) (λ_=>[]) (λk=>x.tries.length- k) 0 (Ax _) ?_ ?_
 ·simp only[EA];exact Ac
 ·intro k hk;refine Ai (λh1=>?_) λh1=>?_
  ·obtain⟨t,ht⟩:=A9 (xs:=x.tries) (k:=k);have hmt:=NC (f:=Qn pl.now) ht;refine Ao [13] (tqs 0 13<| .op 13 .z) [0] [] [] [] λ_=>?_;refine⟨_,Ay (i:=k),?_⟩;refine Zm (q:=1) (enc:=Bz) (sz:=3) (ys:=[.int .i64 pl.now]) (Qn pl.now t) hmt Fh I I I I tqZ I I (by simp[Value.oneCell']) I I tqS I ?_;rw[<-DZ ht];refine tqQ<|Af (z:=(k+1:Nat)) ?_;exact⟨k+1,tqO,tqP,Ac⟩
  ·obtain rfl:k=x.tries.length:=by omega
   rw[IP];refine Ao [2,5,8,10,12,14] (.op 0<|.op 1<| .op 3<|.op 4<| .op 6<|.op 7<| .op 2<| .op 9<| .op 5<| .op 8<| tqs 10 4<| .op 14 .z) [2] [(10,2),(12,2),(14,2)] [] [] λ_=>?_;refine Aj [] [] I7 (λ_=>OE p.tok.a1 p.tok.c1 x.tok.seq hx.1.1) (hF0:=by simp[Bs]) ?_;rintro e cs F1 _ ⟨a1,c1,rfl,rfl⟩;refine tqQ<|Aj [] [] I7 (λ_=>BX p.tok.a2 p.tok.c2 x.tok.q hx.1.2.1) (hF0:=by simp[Bs]) ?_;rintro e cs F1 _ ⟨a2,c2,rfl,rfl⟩;refine tqQ<|Aj [] [] I7 (λ_=>BW p.tok.a3 p.tok.c3 x.tok.hs hx.1.2.2) (hF0:=by simp[Bs]) ?_;rintro e cs F1 _ ⟨a3,c3,rfl,rfl⟩;refine tqQ<|tqQ<|tqQ<|tqQ ?_;have hS:=Afe (K9 x to pl.now) p pl x.tries.length ((K9 x to pl.now).tries.flatMap Bz++junk) a c qs to ⟨0,4,0,0,Je,0,0,0,MW,(K9 x to pl.now).tok⟩ ⟨a1,c1,a2,c2,a3,c3⟩ hq;rw[show Gj pl to ⟨0,4,0,0,Je,0,0,0,MW,(K9 x to pl.now).tok⟩=Of x pl to from I] at hS;refine Cf (mu:=[.c (Gl (K9 x to pl.now) p pl 1 x.tries.length (.slice a qs.length c)) 116,.r ((K9 x to pl.now).tries.flatMap Bz++junk) 104]) [0,1] I7 ⟨I,I,trivial⟩ hS (hF0:=by simp[Bs,K9]) ?_;rintro r Ls F1 ⟨a6,c6,rfl,rfl,rfl⟩;obtain⟨S,hS2⟩:∃S:Sls,S=⟨a1,c1,a2,c2,a3,c3⟩:=⟨_,I⟩;rw[<-hS2];exact Dg [0,1] (.t []) [.c (Gl (K9 x to pl.now) p pl 1 x.tries.length (.slice a6 (qs++[(Of x pl to,S)]).length c6)) 116,.r ((K9 x to pl.now).tries.flatMap Bz++junk) 104] [C5 (.slice a6 (qs++[(Of x pl to,S)]).length c6) (qs++[(Of x pl to,S)])] ⟨I,I,trivial⟩ ⟨a6,c6,S,I,I,I⟩
theorem Agy {x:Slt} {c:Ctr} {use m:Int} (hx:Hr x=true) (hc:Ho c=true) (ha:Ly x use m=true):Hr (Ya x c)=true:=by
 have h1:=Pa.1 hx;simp only[Ly,Ad,Aq] at ha;rw[Pa];simp only[Ya];refine⟨⟨h1.1.1,tqO,tqO⟩,λ_=>h1.2.1 (.inl ha.1.1),λh=>by simp at h,.inl trivial,λ_=>hc,λh=>by simp at h⟩
theorem Vv {n l:Int} {xs:List Slt}:Jl n l s xs=true↔Ef n l s=true/\(xs.length:Int)=s/\∀x∈xs,Hr x=true:=by
 simp only[Jl,Ad,Aq,A6,Xh]
theorem DW {n l:Int} {xs:List Slt} {k:Nat} {use m:Int} {c:Ctr} (hs:Jl n l s xs=true) (hc:Ho c=true) (hk:k<xs.length):(Oj n l s xs k use m c).2.2=0/\Jl n l s (Oj n l s xs k use m c).1=true/\(Oj n l s xs k use m c).1.length=xs.length:=by
 obtain⟨x,hx⟩:=A9 (xs:=xs) (k:=k) (h:=hk);unfold Oj;rw[hs,hc,Tu,Ci,Bi tqO,Ej,hx];dsimp only;cases ha:Ly x use m
 ·exact⟨I,hs,I⟩
 ·refine⟨I,?_,tqS⟩;obtain⟨h1,h2,h3⟩:=Vv.1 hs;refine Vv.2 ⟨h1,by simp;exact h2,λy hy=>?_⟩;rcases List.mem_or_eq_of_mem_set hy with h|h
  ·exact h3 y h
  ·rw[h];exact Agy (h3 x (Av hx)) hc ha
def slK (pl:Plc) (tk:Tok) (sl:List Slt):Nat->List Slt
 |0=>sl
 |k+1=>bif tk.hs.any (C9 (pl.me*pl.s+k)) then(Oj pl.n pl.l pl.s (slK pl tk sl k) k (Hk (C9 (pl.me*pl.s+k)) tk.hs).use (Hk (C9 (pl.me*pl.s+k)) tk.hs).mode tk.c).1 else slK pl tk sl k
def Mt (t:Try) (o:Int):Try:= {t with over:=o}
def K6 (pl:Plc) (tk:Tok) (m:Nat):List Int:=(tk.seq.drop (pl.me*pl.s).toNat).take m
theorem LP {pl:Plc} {tk:Tok} {sl:List Slt} (hs:Jl pl.n pl.l pl.s sl=true) (hc:Ho tk.c=true):∀k,k<=sl.length->Jl pl.n pl.l pl.s (slK pl tk sl k)=true/\(slK pl tk sl k).length=sl.length
 |0,_=>⟨hs,I⟩
 |k+1,hk=>by
  obtain⟨h1,h2⟩:=LP hs hc k tqO;unfold slK;cases tk.hs.any (C9 (pl.me*pl.s+k))
  ·exact⟨h1,h2⟩
  ·have:=DW (k:=k) (use:=(Hk (C9 (pl.me*pl.s+k)) tk.hs).use) (m:=(Hk (C9 (pl.me*pl.s+k)) tk.hs).mode) h1 hc tqO;exact⟨this.2.1,by rw[<-h2];exact this.2.2⟩
def Dh (pl:Plc) (x:Lck):Lck:=
 let tk:=Gt x.tok x.known
 {x with tok:=tk,slots:=slK pl tk x.slots x.slots.length,tries:=Mw Mt x.tries.length x.tries (K6 pl tk x.tries.length)}
structure SetH (pl:Plc) (x:Lck):Prop where
 place:J9 pl=true
 known:Hn pl.n pl.l pl.s x.known=true
 slots:Jl pl.n pl.l pl.s x.slots=true
 tok:Fq pl.n pl.l pl.s x.tok=true
 tries:(x.tries.length:Int)=pl.s
theorem Wo {n l:Int} {x:Tok} (h:Fq n l s x=true):Ho x.c=true/\0<=x.age/\x.age<=1099511627776:=by
 simp only[Fq,Ad] at h;obtain⟨⟨⟨⟨⟨⟨⟨⟨⟨h1,h2⟩,h3⟩,h4⟩,h5⟩,h6⟩,h7⟩,h8⟩,h9⟩,h10⟩:=h;exact⟨h7,by simpa [Lk] using h2⟩
variable {pl:Plc}
theorem Hm (hp:J9 pl=true):Ef pl.n pl.l pl.s=true/\(1<=pl.s/\pl.s<=4)/\0<=pl.me/\pl.me<pl.n/\0<=pl.me*pl.s/\pl.me*pl.s+pl.s<=pl.n*pl.s/\pl.n*pl.s<=256/\O1 pl.limit=true:=by
 simp only[J9,Ad] at hp;obtain⟨⟨⟨⟨⟨h1,⟨h2,_⟩⟩,h3⟩,_⟩,_⟩,_⟩:=hp;have hs:=In h1;have hn:0<=pl.me/\pl.me<pl.n:=by simpa [Fk] using h2
 have e0:0<=pl.me*pl.s:=Sa hn.1 tqO;have e1:pl.me*pl.s<=(pl.n- 1)*pl.s:=Int.mul_le_mul_of_nonneg_right tqO tqO;have e2:(pl.n- 1)*pl.s=pl.n*pl.s- pl.s:=by rw[Int.sub_mul,Int.one_mul]
 exact⟨h1,hs.2.2,hn.1,hn.2,e0,tqO,(Um h1).2,h3⟩
theorem Aal {n l:Int} {x:Tok} {known:List Sta} (h:Fq n l s x=true) (hk:Hn n l s known=true):(Gt x known).seq.length=x.seq.length:=by
 have H:=LrnH.of h hk;show (sqK known.length x known).length=_
 rw[H.seqLen,H.len]
variable {x:Lck}
theorem CQ (H:SetH pl x):(K6 pl (Gt x.tok x.known) x.tries.length).length=x.tries.length:=by
 have h1:=Hm H.place;have h2:=(Lr H.tok).2.2.1;have h3:=H.tries;unfold K6;rw[Am,Bn,Aal H.tok H.known];omega
theorem PE {tk:Tok} {m k:Nat} {o:Int} (hk:k<m) (ho:tk.seq[(pl.me*pl.s).toNat+k]? =some o):(K6 pl tk m)[k]? =some o:=by
 unfold K6;rw[Db hk,E3];exact ho
theorem SetH.learns (H:SetH pl x):SetH pl (Dh pl x):=by
 have hL:=LrnH.of H.tok H.known;have h1:Fq pl.n pl.l pl.s (Gt x.tok x.known)=true:=hL.learn H.tok;refine⟨H.place,H.known,(LP H.slots (Wo h1).1 _ (Ak _)).1,h1,?_⟩;show ((Mw Mt x.tries.length x.tries (K6 pl (Gt x.tok x.known) x.tries.length)).length:Int)=pl.s
 rw[Zg (CQ H).symm];exact H.tries
theorem tail1 {P:Prop} {G:α->Prop} (h1:(∀a,G a)->P) (h2:∀a,G a):P:=h1 h2
def G7 (x:Lck) (p:LckS):List Fact:=Bs x.tok p.tok++[slF Bv 4 (.slice p.a4 x.known.length p.c4) x.known,slF Bm 8 (.slice p.a5 x.slots.length p.c5) x.slots]
theorem VI (x:Lck) (p:LckS):∀f∈Bs x.tok p.tok++[slF Bv 4 (.slice p.a4 x.known.length p.c4) x.known],f∈G7 x p:=λf hf=>by
 rcases B4.1 hf with h|h
 ·exact Er _ h
 ·exact Ch _ (by simp at h;simp[h])
def Aoc (x':Lck) (p:LckS) (pl:Plc) (m:Nat) (lv:Value) (junk:List Value):Ku:=λr Ls F1=>∃p',p'.a4=p.a4/\p'.c4=p.c4/\p'.c6=p.c6/\r=.inl (.t [])/\Ls=[.c (Gl x' p' pl 1 m lv) 116,.r (x'.tries.flatMap Bz++junk) 104]/\F1=G7 x' p'
theorem Ake (x:Lck) (p:LckS) (pl:Plc) (lv:Value) (junk:List Value) (hx:x.small) (H:SetH pl x):Cx prog 84 [.o (.p 0 0)] [.c (Gl x p pl 1 x.tries.length lv) 116,.r (x.tries.flatMap Bz++junk) 104] (G7 x p) (Aoc (Dh pl x) p pl x.tries.length lv junk):=by
 have hL:=LrnH.of H.tok H.known;have hTk:Fq pl.n pl.l pl.s (Gt x.tok x.known)=true:=hL.learn H.tok;have hLn:=Akd pl.n pl.l pl.s x.tok p.tok p.a4 p.c4 x.known hx.1 hx.2.1;have hkn:(Fq pl.n pl.l pl.s x.tok&&Hn pl.n pl.l pl.s x.known)=true:=by rw[H.tok,H.known];rfl
 refine tqx func84 ntmps84 ?_;intro ρ w0 A0;apply tail1 (α:=Sls)
 ·intro tail;refine Ao [15,19,20] (tqs 0 15<| .alt (tqs 15 6<| .op 21 .z) (.op 19<| tqs 15 4<| .op 20<| .op 21 .z)) [0] [] [] [] λ_=>?_;refine⟨?_,?_⟩
  ·refine Aj [] [] I7 (λ_=>hLn) (hF0:=VI x p) ?_;rintro e cs F1 _ (⟨_,s,rfl,rfl⟩|⟨hc,_⟩);rotate_left
   ·rw[hkn] at hc;cases hc
   exact tqQ<|tqQ<|tqQ<|Ni [(29,.o (.v (.int .i64 0))),(0,.o (.p 0 0)),(2,.o (.p 2 0))] [(0,.c (Gl x p pl 1 x.tries.length lv) 116),(1,D9 (x.tries.flatMap Bz++junk) 104),(2,.c (Ps (Gt x.tok x.known) s) 33)] 3 (Bs (Gt x.tok x.known) s++G7 x p) Ac (tail s)
  ·refine tqQ<|Aj [] [] I7 (λ_=>hLn) (hF0:=VI x p) ?_;rintro e cs F1 _ (⟨_,s,rfl,rfl⟩|⟨hc,_⟩);rotate_left
   ·rw[hkn] at hc;cases hc
   exact tqQ<|tqQ<|Ni [(29,.o (.v (.int .i64 0))),(0,.o (.p 0 0)),(2,.o (.p 2 0))] [(0,.c (Gl x p pl 1 x.tries.length lv) 116),(1,D9 (x.tries.flatMap Bz++junk) 104),(2,.c (Ps (Gt x.tok x.known) s) 33)] 3 (Bs (Gt x.tok x.known) s++G7 x p) Ac (tail s)
 ·rintro ⟨a1,c1,a2,c2,a3,c3⟩;refine En func27 ntmps27 ?_;intro w1 A1 M1 N1 hN1;refine Aj [] [] I7 (λ_=>Ob true 0) ?_;rintro e cs F1 _ ⟨⟨_,rfl⟩|⟨hc,rfl⟩,rfl⟩;rotate_left
  ·cases hc
  refine⟨I,?_⟩;have hpf:=Hm H.place;obtain⟨hs1,hs2,hs3⟩:=Vv.1 H.slots;have htl:=H.tries;have hCt:=(Wo hTk).1;have hTh:=Lr hTk;have hol:=CQ H;have hS:Dh pl x= {x with tok:=Gt x.tok x.known,slots:=slK pl (Gt x.tok x.known) x.slots x.slots.length,tries:=Mw Mt x.tries.length x.tries (K6 pl (Gt x.tok x.known) x.tries.length)}:=I;rw[hS];clear hS hLn hL;generalize Gt x.tok x.known=tk at*;refine Pw [slF Bt 1 (.slice a1 tk.seq.length c1) tk.seq,slF wtL 5 (.slice a2 tk.q.length c2) tk.q,slF hdL 3 (.slice a3 tk.hs.length c3) tk.hs,slF Bv 4 (.slice p.a4 x.known.length p.c4) x.known,slF Bm 8 (.slice p.a5 x.slots.length p.c5) x.slots] (λA w h f hf=>h f (by simp only[Ap,Bw,Ed] at hf;rcases hf with rfl|rfl|rfl|rfl|rfl<;>simp[Bs,G7])) ?_;refine Br (γ:=Nat×Option Addr×Nat) (λg=>g.1<=x.slots.length) (λg=>[(42,.o (.v (.int .i64 g.1)))]) (λg=>[(0,.c (Gl {x with tok:=tk,slots:=slK pl tk x.slots g.1} ⟨⟨a1,c1,a2,c2,a3,c3⟩,p.a4,p.c4,g.2.1,g.2.2,p.a6,p.c6⟩ pl 1 x.tries.length lv) 116),(1,D9 ((Mw Mt g.1 x.tries (K6 pl tk x.tries.length)).flatMap Bz++junk) 104)]) (λg=>[slF Bm 8 (.slice g.2.1 (slK pl tk x.slots g.1).length g.2.2) (slK pl tk x.slots g.1)]) (λg=>x.slots.length- g.1) (0,p.a5,p.c5) (Ax _) ?_ ?_
  ·simp only[slK,AC];exact Ac
  rintro ⟨k,a5,c5⟩ hk;dsimp only at hk⊢;obtain⟨hk1,hk2⟩:=LP H.slots hCt k hk;refine Ai (λh1=>?_) λh1=>?_
  ·obtain⟨t,ht⟩:=A9 (xs:=x.tries) (k:=k);have hsl3:=hTh.2.2.1;obtain⟨o,ho⟩:=A9 (xs:=tk.seq) (k:=(pl.me*pl.s).toNat+k);have hos:=PE (pl:=pl) (m:=x.tries.length) (k:=k) tqO ho;have hmt:(Mw Mt k x.tries (K6 pl tk x.tries.length))[k]? =some t:=by rw[Yy hol.symm,Ar (Tz _)];exact ht
   have hmk:=EC (f:=Mt) hol.symm ht hos;have hsk:slK pl tk x.slots (k+1)=bif tk.hs.any (C9 (pl.me*pl.s+k)) then(Oj pl.n pl.l pl.s (slK pl tk x.slots k) k (Hk (C9 (pl.me*pl.s+k)) tk.hs).use (Hk (C9 (pl.me*pl.s+k)) tk.hs).mode tk.c).1 else slK pl tk x.slots k:=I
   have hFd:=CF a3 c3 tk.hs (pl.me*pl.s+k) (by have:=Uk hTh.2.1;omega);rw[BL hTh.2.1] at hFd;have hGr:=WZ pl.n pl.l pl.s a5 c5 (slK pl tk x.slots k) k (Hk (C9 (pl.me*pl.s+k)) tk.hs).use (Hk (C9 (pl.me*pl.s+k)) tk.hs).mode tk.c tqO;obtain⟨hg1,_,_⟩:=DW (k:=k) (use:=(Hk (C9 (pl.me*pl.s+k)) tk.hs).use) (m:=(Hk (C9 (pl.me*pl.s+k)) tk.hs).mode) hk1 hCt tqO;generalize hgr:Oj pl.n pl.l pl.s (slK pl tk x.slots k) k (Hk (C9 (pl.me*pl.s+k)) tk.hs).use (Hk (C9 (pl.me*pl.s+k)) tk.hs).mode tk.c=gr at hGr hg1 hsk;generalize Hk (C9 (pl.me*pl.s+k)) tk.hs=h at hFd hGr;obtain⟨hz,hu,hm⟩:=h;obtain⟨gs,gb,ge⟩:=gr;dsimp only at hg1 hsk hGr;subst hg1;refine Ec (slF Bt 1 (.slice a1 tk.seq.length c1) tk.seq) (B1 ho) ?_;rintro ⟨b,off,rfl⟩;refine Ao [10,15] (tqs 0 15<| .op 15 .z) [0,2] [] [] [slF Bt 1 (.slice (some ⟨b,off,none⟩) tk.seq.length c1) tk.seq] λ_=>?_;refine Aj (F0:=[]) [0] [] I7 (λρ=>Zf {x with tok:=tk,slots:=slK pl tk x.slots k} ⟨⟨some ⟨b,off,none⟩,c1,a2,c2,a3,c3⟩,p.a4,p.c4,a5,c5,p.a6,p.c6⟩ pl (.slice (some ⟨ρ 1,0,none⟩) x.tries.length p.c6) lv (ρ 0) k tqO tqO) (hno:=.inr tqH) ?_;rintro e cs F1 _ ⟨rfl,rfl⟩;refine tqQ<|⟨_,Bb (i:=(pl.me*pl.s).toNat+k) (ho:=I) (he:=I) (hx:=I) (hix:=I) (hz:=tqO),?_⟩;refine⟨_,Ce (slF Bt 1 (.slice (some ⟨b,off,none⟩) tk.seq.length c1) tk.seq) (Eg ho (j:=0) I),?_⟩;refine⟨_,Ay (i:=k),?_⟩;refine Zm (q:=2) (enc:=Bz) (sz:=3) (ys:=[.int .i64 o]) (Mt t o) hmt Fh I I I I tqZ I I (by simp[Value.oneCell']) I I tqS I ?_;rw[<-hmk];refine tqQ ?_;cases hany:tk.hs.any (C9 (pl.me*pl.s+k))
   ·rw[hany] at hFd hsk;rw[By] at hsk;refine Ao [4,5,9,10] (tqs 0 4<| .alt (.op 4<|.alt (tqs 5 6<| .op 11 .z) (.op 9<| tqs 5 4<| .op 10<| .op 11 .z)) (.op 9<| tqs 4 5<| .op 10<| .op 11 .z)) [0,2] [] [] [] λ_=>?_;refine⟨?_,?_⟩
    ·refine Aj (F0:=[]) [0] [] I7 (λρ=>Zf {x with tok:=tk,slots:=slK pl tk x.slots k} ⟨⟨some ⟨b,off,none⟩,c1,a2,c2,a3,c3⟩,p.a4,p.c4,a5,c5,p.a6,p.c6⟩ pl (.slice (some ⟨ρ 1,0,none⟩) x.tries.length p.c6) lv (ρ 0) k tqO tqO) (hno:=.inr tqH) ?_;rintro e cs F1 _ ⟨rfl,rfl⟩;refine tqQ ?_;refine⟨?_,?_⟩
     ·refine tqc I5 (λ_=>hFd) ?_;refine tqQ<|tqQ<|tqQ<|Af (z:=(k+1:Nat)) ?_;refine⟨(k+1,a5,c5),tqP,tqP,?_⟩;simp only[hsk];exact Ac
     ·refine tqQ<|tqc I5 (λ_=>hFd) ?_;refine tqQ<|tqQ<|Af (z:=(k+1:Nat)) ?_;refine⟨(k+1,a5,c5),tqP,tqP,?_⟩;simp only[hsk];exact Ac
    ·refine tqQ<|Aj (F0:=[]) [0] [] I7 (λρ=>Zf {x with tok:=tk,slots:=slK pl tk x.slots k} ⟨⟨some ⟨b,off,none⟩,c1,a2,c2,a3,c3⟩,p.a4,p.c4,a5,c5,p.a6,p.c6⟩ pl (.slice (some ⟨ρ 1,0,none⟩) x.tries.length p.c6) lv (ρ 0) k tqO tqO) (hno:=.inr tqH) ?_;rintro e cs F1 _ ⟨rfl,rfl⟩;refine tqQ<|tqc I5 (λ_=>hFd) ?_;refine tqQ<|tqQ<|Af (z:=(k+1:Nat)) ?_;refine⟨(k+1,a5,c5),tqP,tqP,?_⟩;simp only[hsk];exact Ac
   ·rw[hany] at hFd hsk;rw[Ci] at hsk;refine Ao [4,5,9,10] (tqs 0 4<| .alt (.op 4<|.alt (tqs 5 6<| .op 11 .z) (.op 9<| tqs 5 4<| .op 10<| .op 11 .z)) (.op 9<| tqs 4 5<| .op 10<| .op 11 .z)) [0,2] [] [] [] λ_=>?_;refine⟨?_,?_⟩
    ·refine Aj (F0:=[]) [0] [] I7 (λρ=>Zf {x with tok:=tk,slots:=slK pl tk x.slots k} ⟨⟨some ⟨b,off,none⟩,c1,a2,c2,a3,c3⟩,p.a4,p.c4,a5,c5,p.a6,p.c6⟩ pl (.slice (some ⟨ρ 1,0,none⟩) x.tries.length p.c6) lv (ρ 0) k tqO tqO) (hno:=.inr tqH) ?_;rintro e cs F1 _ ⟨rfl,rfl⟩;refine tqQ ?_;refine⟨?_,?_⟩
     ·refine tqc I5 (λ_=>hFd) ?_;refine tqQ<|tqQ<|tqQ<|Ao [17] (tqs 0 24<| .op 24 .z) [0,2,3] [] [] [] λ_=>?_;refine Aj [] [] I7 (λ_=>hGr) ?_;rintro e cs F1 _ ⟨a7,c7,rfl,rfl⟩;refine tqQ<|En func27 ntmps27 ?_;intro w3 A3 M3 N3 hN3;refine Aj [] [] I7 (λ_=>Ob true 0) ?_;rintro e cs F1 _ ⟨⟨_,rfl⟩|⟨hc,rfl⟩,rfl⟩;rotate_left
      ·cases hc
      refine⟨I,?_⟩;refine Af (z:=(k+1:Nat)) ?_;refine⟨(k+1,a7,c7),tqP,tqP,?_⟩;simp only[hsk];exact Ac
     ·refine tqQ<|tqc I5 (λ_=>hFd) ?_;refine tqQ<|tqQ<|Ao [17] (tqs 0 24<| .op 24 .z) [0,2,3] [] [] [] λ_=>?_;refine Aj [] [] I7 (λ_=>hGr) ?_;rintro e cs F1 _ ⟨a7,c7,rfl,rfl⟩;refine tqQ<|En func27 ntmps27 ?_;intro w3 A3 M3 N3 hN3;refine Aj [] [] I7 (λ_=>Ob true 0) ?_;rintro e cs F1 _ ⟨⟨_,rfl⟩|⟨hc,rfl⟩,rfl⟩;rotate_left
      ·cases hc
      refine⟨I,?_⟩;refine Af (z:=(k+1:Nat)) ?_;refine⟨(k+1,a7,c7),tqP,tqP,?_⟩;simp only[hsk];exact Ac
    ·refine tqQ<|Aj (F0:=[]) [0] [] I7 (λρ=>Zf {x with tok:=tk,slots:=slK pl tk x.slots k} ⟨⟨some ⟨b,off,none⟩,c1,a2,c2,a3,c3⟩,p.a4,p.c4,a5,c5,p.a6,p.c6⟩ pl (.slice (some ⟨ρ 1,0,none⟩) x.tries.length p.c6) lv (ρ 0) k tqO tqO) (hno:=.inr tqH) ?_;rintro e cs F1 _ ⟨rfl,rfl⟩;refine tqQ<|tqc I5 (λ_=>hFd) ?_;refine tqQ<|tqQ<|Ao [17] (tqs 0 24<| .op 24 .z) [0,2,3] [] [] [] λ_=>?_;refine Aj [] [] I7 (λ_=>hGr) ?_;rintro e cs F1 _ ⟨a7,c7,rfl,rfl⟩;refine tqQ<|En func27 ntmps27 ?_;intro w3 A3 M3 N3 hN3;refine Aj [] [] I7 (λ_=>Ob true 0) ?_;rintro e cs F1 _ ⟨⟨_,rfl⟩|⟨hc,rfl⟩,rfl⟩;rotate_left
     ·cases hc
     refine⟨I,?_⟩;refine Af (z:=(k+1:Nat)) ?_;refine⟨(k+1,a7,c7),tqP,tqP,?_⟩;simp only[hsk];exact Ac
  ·obtain rfl:k=x.slots.length:=by omega
   have e:x.slots.length=x.tries.length:=by omega
   rw[<-e];have hR:({x with tok:=tk,slots:=slK pl tk x.slots x.slots.length,tries:=Mw Mt x.slots.length x.tries (K6 pl tk x.slots.length)}:Lck).tries.flatMap Bz=(Mw Mt x.slots.length x.tries (K6 pl tk x.slots.length)).flatMap Bz:=I;exact Dg [0,1] (.t []) [.c (Gl {x with tok:=tk,slots:=slK pl tk x.slots x.slots.length,tries:=Mw Mt x.slots.length x.tries (K6 pl tk x.slots.length)} ⟨⟨a1,c1,a2,c2,a3,c3⟩,p.a4,p.c4,a5,c5,p.a6,p.c6⟩ pl 1 x.slots.length lv) 116,.r ((Mw Mt x.slots.length x.tries (K6 pl tk x.slots.length)).flatMap Bz++junk) 104] (G7 {x with tok:=tk,slots:=slK pl tk x.slots x.slots.length,tries:=Mw Mt x.slots.length x.tries (K6 pl tk x.slots.length)} ⟨⟨a1,c1,a2,c2,a3,c3⟩,p.a4,p.c4,a5,c5,p.a6,p.c6⟩) ⟨I,I,trivial⟩ ⟨⟨⟨a1,c1,a2,c2,a3,c3⟩,p.a4,p.c4,a5,c5,p.a6,p.c6⟩,I,I,I,I,by rw[hR],I⟩ (hF:=λf hf=>by
    simp only[G7,Bs,B4,Ap,Bw,Ed] at hf;rcases hf with (rfl|rfl|rfl)|rfl|rfl<;>simp)
section
variable {X:Fx} {T:TE} {L:LE} {n:Nat} {F:List Fact} {D:DF} {K:KK} {c:Code}
theorem Aan {P:Nat->Prop}:∀m,P m->∃k,P k/\k<=m/\∀j,P j->k<=j:=by
 intro m;induction m using Nat.strongRecOn with
 |_ m ih=>
  intro hm;by_cases h:∃j,P j/\j<m
  ·obtain⟨j,hj,hl⟩:=h;obtain⟨k,h1,h2,h3⟩:=ih j hl hj;exact⟨k,h1,tqO,h3⟩
  ·exact⟨m,hm,Ak m,λj hj=>by
    by_cases hl:j<m
    ·exact absurd ⟨j,hj,hl⟩ h
    ·omega⟩
theorem Abo {P:Program} {a:Act} {w:World} {Q:Exit->Act->World->Prop} {rest:Code} (l:Nat) (J:Nat->Act->World->Prop) (m0:Nat) (h0:J m0 a w)
  (pass:∀m a w,J m a w->rest.wp P (Exit.jump l (λa' w'=>∃m',m'<m/\J m' a' w') Q) a w):(Code.scope (.seq (.label l) rest)).wp P Q a w:=by
 classical
 let μ:Act->World->Nat:=λa w=>if h:∃m,J m a w then Classical.choose (Aan (P:=λm=>J m a w) h.choose h.choose_spec) else 0
 have hμ:∀m a w,J m a w->J (μ a w) a w/\μ a w<=m:=by
  intro m a w h;have hE:∃m,J m a w:=⟨m,h⟩;have e:μ a w=Classical.choose (Aan (P:=λm=>J m a w) hE.choose hE.choose_spec):=dif_pos hE;have hs:=Classical.choose_spec (Aan (P:=λm=>J m a w) hE.choose hE.choose_spec);rw[e];exact⟨hs.1,hs.2.2 m h⟩
 have hf:findLabel (.seq (.label l) rest) l=some (.seq .skip rest):=by simp[findLabel]
 have up:∀m a w,J m a w->rest.wp P (Exit.jump l (λa' w'=>(∃m,J m a' w')/\μ a' w'<m) Q) a w:=λm a w h=>wp_mono (pass m a w h) λe a' w' hq=>by
  cases e with
  |goto l'=>
   obtain⟨h1,m',h2,h3⟩:=hq;exact⟨h1,⟨m',h3⟩,Nat.lt_of_le_of_lt (hμ m' a' w' h3).2 h2⟩
  |normal=>exact hq
  |exit id=>exact hq
  |ret=>exact hq
  |panic ch=>exact hq
  |outgrown=>exact hq
 refine wp_scope_jumps l (λa w=>∃m,J m a w) μ hf (wp_seq (wp_label ?_)) ?_
 ·refine wp_mono (up m0 a w h0) λe a' w' hq=>?_;cases e with
  |goto l'=>exact⟨hq.1,hq.2.1⟩
  |normal=>exact hq
  |exit id=>exact hq
  |ret=>exact hq
  |panic ch=>exact hq
  |outgrown=>exact hq
 ·rintro a w ⟨m,hm⟩;exact wp_seq (wp_skip (up (μ a w) a w (hμ m a w hm).1))
def Aiy (X:Fx) (l:Nat) {γ:Type} (p:γ->Prop) (σ:γ->Sg) (μ:γ->Nat) (g:γ) (K:KK):KK:=λe T L n F D=>match e with
 | .goto l'=>l'=l/\∃g',p g'/\μ g'<μ g/\Wk X T L n F D (σ g')
 |e=>K e T L n F D
theorem ZH {γ:Type} (l:Nat) (p:γ->Prop) (σ:γ->Sg) (μ:γ->Nat) (g0:γ) (h0:p g0) (hr:X.r=none) (hw:Wk X T L n F D (σ g0))
  (h:∀g,p g->sx X c (σ g).T (σ g).L (σ g).n (σ g).F (σ g).D (Aiy X l p σ μ g K)):CJs X (.scope (.seq (.label l) c)) T L n F D K:=by
 intro Q hQ a w hrel;have hfe:X.fe=Fence.wide:=by unfold Fx.fe;rw[hr];rfl
 rw[hfe];refine H9.2 (Abo l (λm a w=>∃g,p g/\μ g=m/\Rel X (σ g).T (σ g).L (σ g).n (σ g).F (σ g).D a w) (μ g0) ⟨g0,h0,I,hw a w hrel⟩ ?_);rintro m a w ⟨g,hp,rfl,hg⟩;have:=Ht (h g hp) (Exit.jump l (λa' w'=>∃m',m'<μ g/\∃g,p g/\μ g=m'/\Rel X (σ g).T (σ g).L (σ g).n (σ g).F (σ g).D a' w') Q) (λe T L n F D hK a w hr'=>by
  cases e with
  |goto l'=>
   obtain⟨h1,g',h2,h3,h4⟩:=hK;exact⟨h1,μ g',h3,g',h2,I,h4 a w hr'⟩
  |normal=>exact hQ _ _ _ _ _ _ hK a w hr'
  |exit id=>exact hQ _ _ _ _ _ _ hK a w hr'
  |ret=>exact hQ _ _ _ _ _ _ hK a w hr'
  |panic ch=>exact hQ _ _ _ _ _ _ hK a w hr'
  |outgrown=>exact hQ _ _ _ _ _ _ hK a w hr') a w hg
 rw[hfe] at this;exact H9.1 this
theorem JT {γ:Type} (l:Nat) (p:γ->Prop) (TT:γ->TE) (LL:γ->LE) (FF:γ->List Fact) (μ:γ->Nat) (g0:γ) (h0:p g0) (hr:X.r=none) (hw:Wk X T L n F D ⟨TT g0,LL g0,n,FF g0,D⟩)
  (h:∀g,p g->sx X c (TT g) (LL g) n (FF g) D (Aiy X l p (λg=>⟨TT g,LL g,n,FF g,D⟩) μ g K)):CJs X (.scope (.seq (.label l) c)) T L n F D K:=
 ZH l p (λg=>⟨TT g,LL g,n,FF g,D⟩) μ g0 h0 hr hw h
end
def grT (x:Lck) (u:Wu):Lck:= {x with tok:=Ol x.tok u}
def Ie (pl:Plc) (z:Lck) (h:Hd):List Ltr:=bif !(h.site.tdiv pl.s == pl.me)&& !(h.mode == 5) then [G8 z pl h] else []
theorem GV (pl:Plc) (z:Lck) (h:Hd):(Ie pl z h).length<=1:=by
 unfold Ie;cases (!(h.site.tdiv pl.s == pl.me)&& !(h.mode == 5))<;>simp
def Gu (pl:Plc):Nat->Lck->Lck×List Ltr
 |0,x=>(x,[])
 |f+1,x=>bif !x.has||pl.still then(x,[]) else
  match L3 pl.s pl.me (Dh pl x).tok with
  |some to=>bif decide ((Dh pl x).last<1099511627776) then(K9 (Dh pl x) to pl.now,[Of (Dh pl x) pl to]) else(Dh pl x,[])
  |none=>match Kt pl.limit (Dh pl x).tok.q (Et (Dh pl x).tok.hs) with
   |none=>(Dh pl x,[])
   |some u=>((Gu pl f (grT (Dh pl x) u)).1,Ie pl (grT (Dh pl x) u) (Dv u)++(Gu pl f (grT (Dh pl x) u)).2)
def Aaw (x:Lck):Prop:=∀z,Zj x.tok.seq x.known z=false
theorem SetH.lrn (H:SetH pl x):LrnH pl.n pl.s x.tok x.known:=LrnH.of H.tok H.known
theorem Aam (H:SetH pl x):Aaw (Dh pl x):=by
 intro z;have hL:=H.lrn;show Zj (sqK x.known.length x.tok x.known) x.known z=false
 unfold Zj;split
 ·rename_i o k ho hk;have hlt:=(Aa.1 hk).1;obtain⟨o',ho'⟩:=A9 (xs:=x.tok.seq) (k:=z.toNat) (h:=by rw[hL.len];exact hlt);have:=hL.seqAt (k:=x.known.length) ho' hk;rw[Bi hlt,ho] at this;cases this;unfold upS;cases h:decide (o'<k.over)
  ·exact h
  ·exact Gg tqS
 ·rfl
theorem Adt (h:Aaw x):(Dh pl x).tok.hs=x.tok.hs:=by
 show hsK x.known.length x.tok x.known=x.tok.hs
 unfold hsK;rw[Hi];intro y _;rw[h y.site,L6];rfl
theorem SetH.small (H:SetH pl x):x.small:=by
 have h1:=Hm H.place;have h2:=Lr H.tok;have h3:=H.lrn.len;have h4:=(Vv.1 H.slots).2.1;have h5:=(Ft.1 h2.2.2.2.2).1;have h6:=Uk h2.2.1;have h7:=H.tries;refine⟨⟨?_,?_,?_⟩,?_,?_,?_⟩<;>omega
structure SetP (pl:Plc) (x0:Lck) (f:Nat) (y:Lck) (ls:List (Ltr×Sls)):Prop where
 h:SetH pl y
 fuel:600<=f\/Aaw y/\257<=y.tok.hs.length+f
 len:ls.length+f<=600
 res:Gu pl 600 x0=((Gu pl f y).1,ls.map Prod.fst++(Gu pl f y).2)
variable {f:Nat} {ls:List (Ltr×Sls)} {x0 y:Lck}
theorem SetP.pos (H:SetP pl x0 f y ls):0<f:=by
 have h:=Uk (Lr H.h.tok).2.1;rcases H.fuel with h1|h1
 ·omega
 ·have:=h1.2;omega
theorem SetP.zero (H:SetH pl x):SetP pl x 600 x []:=⟨H,.inl (Ak _),by decide,tqS⟩
theorem SetP.off (H:SetP pl x0 f y ls) (h:(!y.has||pl.still)=true):Gu pl 600 x0=(y,ls.map Prod.fst):=by
 obtain⟨g,rfl⟩:∃g,f=g+1:=⟨f- 1,by have:=H.pos;omega⟩;rw[H.res];simp only[Gu,h,Ci,Bu]
theorem SetP.away {to:Int} (H:SetP pl x0 f y ls) (h:(!y.has||pl.still)=false) (hg:L3 pl.s pl.me (Dh pl y).tok=some to) (hl:(Dh pl y).last<1099511627776):Gu pl 600 x0=(K9 (Dh pl y) to pl.now,ls.map Prod.fst++[Of (Dh pl y) pl to]):=by
 obtain⟨g,rfl⟩:∃g,f=g+1:=⟨f- 1,by have:=H.pos;omega⟩;rw[H.res];simp only[Gu,h,By,hg,D4 hl,Ci]
theorem SetP.stay {to:Int} (H:SetP pl x0 f y ls) (h:(!y.has||pl.still)=false) (hg:L3 pl.s pl.me (Dh pl y).tok=some to) (hl:¬(Dh pl y).last<1099511627776):Gu pl 600 x0=(Dh pl y,ls.map Prod.fst):=by
 obtain⟨g,rfl⟩:∃g,f=g+1:=⟨f- 1,by have:=H.pos;omega⟩;rw[H.res];simp only[Gu,h,By,hg,Gg hl,Bu]
theorem SetP.no (H:SetP pl x0 f y ls) (h:(!y.has||pl.still)=false) (hg:L3 pl.s pl.me (Dh pl y).tok=none) (hn:Kt pl.limit (Dh pl y).tok.q (Et (Dh pl y).tok.hs)=none):Gu pl 600 x0=(Dh pl y,ls.map Prod.fst):=by
 obtain⟨g,rfl⟩:∃g,f=g+1:=⟨f- 1,by have:=H.pos;omega⟩;rw[H.res];simp only[Gu,h,By,hg,hn,Bu]
theorem SetP.step {l2:List (Ltr×Sls)} {u:Wu} (H:SetP pl x0 f y ls) (h:(!y.has||pl.still)=false) (hg:L3 pl.s pl.me (Dh pl y).tok=none) (hn:Kt pl.limit (Dh pl y).tok.q (Et (Dh pl y).tok.hs)=some u) (h2:l2.map Prod.fst=Ie pl (grT (Dh pl y) u) (Dv u)):SetP pl x0 (f- 1) (grT (Dh pl y) u) (ls++l2):=by
 obtain⟨g,rfl⟩:∃g,f=g+1:=⟨f- 1,by have:=H.pos;omega⟩;have hl:=H.h.learns;have hGr:=GrtH.of hl.tok hn;have h6:=Uk (Lr hl.tok).2.1;have hlen:(grT (Dh pl y) u).tok.hs.length=(Dh pl y).tok.hs.length+1:=BV _ _;refine⟨⟨hl.place,hl.known,hl.slots,hGr.ok,hl.tries⟩,.inr ⟨λz=>Aam H.h z,?_⟩,?_,?_⟩
 ·rw[hlen];rcases H.fuel with h1|h1
  ·omega
  ·rw[Adt h1.1];have:=h1.2;omega
 ·have e:l2.length<=1:=by
   rw[<-Cr (f:=Prod.fst),h2];exact GV _ _ _
  have:=H.len;rw[Az];omega
 ·rw[H.res];simp only[Gu,h,By,hg,hn,D6,h2,Cp,Xf]
def NQ (x:Lck) (p:LckS) (pl:Plc) (junk:List Value) (qs:List (Ltr×Sls)):Ku:=λr Ls F1=>∃p' a c ls,p'.a4=p.a4/\p'.c4=p.c4/\p'.c6=p.c6/\ls.map Prod.fst=(Gu pl 600 x).2/\r=.inl (.t [])/\Ls=[.c (Gl (Gu pl 600 x).1 p' pl 1 (Gu pl 600 x).1.tries.length (.slice a (qs++ls).length c)) 116,.r ((Gu pl 600 x).1.tries.flatMap Bz++junk) 104]/\F1=C5 (.slice a (qs++ls).length c) (qs++ls)::G7 (Gu pl 600 x).1 p'
theorem Ah8 (x:Lck) (p:LckS) (pl:Plc) (junk:List Value) (a:Option Addr) (c:Nat) (qs:List (Ltr×Sls)) (H:SetH pl x) (hq:qs.length<=90000):Cx prog 39 [.o (.p 0 0)] [.c (Gl x p pl 1 x.tries.length (.slice a qs.length c)) 116,.r (x.tries.flatMap Bz++junk) 104] (C5 (.slice a qs.length c) qs::G7 x p) (NQ x p pl junk qs):=by
 refine tqx func39 ntmps39 ?_;intro ρ w0 A0;refine JT 0 (γ:=Nat×Lck×LckS×Option Addr×Nat×List (Ltr×Sls)) (λg=>SetP pl x g.1 g.2.1 g.2.2.2.2.2/\g.2.2.1.a4=p.a4/\g.2.2.1.c4=p.c4/\g.2.2.1.c6=p.c6) (λ_=>[(0,.o (.p 0 0))]) (λg=>[(0,.c (Gl g.2.1 g.2.2.1 pl 1 g.2.1.tries.length (.slice g.2.2.2.1 (qs++g.2.2.2.2.2).length g.2.2.2.2.1)) 116),(1,D9 (g.2.1.tries.flatMap Bz++junk) 104)]) (λg=>C5 (.slice g.2.2.2.1 (qs++g.2.2.2.2.2).length g.2.2.2.2.1) (qs++g.2.2.2.2.2)::G7 g.2.1 g.2.2.1) (λg=>g.1) (600,x,p,a,c,[]) ⟨SetP.zero H,I,I,I⟩ I ?_ ?_
 ·simp only[Bu];exact Ac
 rintro ⟨f,y,p1,a1,c1,ls⟩ ⟨HP,e4,e5,e6⟩;dsimp only at HP e4 e5 e6⊢;have HH:=HP.h;have hLn:=λlv=>Ake y p1 pl lv junk HH.small HH;obtain⟨rs,hrs⟩:∃rs,rs=qs++ls:=⟨_,I⟩;rw[<-hrs];conv=>whnf
 cases hh:y.has
 ·have hE:=HP.off (by rw[hh];rfl);clear hLn;subst hrs;exact Dg [0,1] (.t []) [.c (Gl y p1 pl 1 y.tries.length (.slice a1 (qs++ls).length c1)) 116,.r (y.tries.flatMap Bz++junk) 104] (C5 (.slice a1 (qs++ls).length c1) (qs++ls)::G7 y p1) ⟨I,I,trivial⟩ ⟨p1,a1,c1,ls,e4,e5,e6,by rw[hE],I,by rw[hE],by rw[hE]⟩
 conv=>whnf
 cases hs:pl.still;rotate_left
 ·have hE:=HP.off (by rw[hh,hs];rfl);clear hLn;subst hrs;exact Dg [0,1] (.t []) [.c (Gl y p1 pl 1 y.tries.length (.slice a1 (qs++ls).length c1)) 116,.r (y.tries.flatMap Bz++junk) 104] (C5 (.slice a1 (qs++ls).length c1) (qs++ls)::G7 y p1) ⟨I,I,trivial⟩ ⟨p1,a1,c1,ls,e4,e5,e6,by rw[hE],I,by rw[hE],by rw[hE]⟩
 have hon:(!y.has||pl.still)=false:=by rw[hh,hs];rfl
 conv=>whnf
 refine Cf (mu:=[.c (Gl y p1 pl 1 y.tries.length (.slice a1 rs.length c1)) 116,.r (y.tries.flatMap Bz++junk) 104]) [0,1] I7 ⟨I,I,trivial⟩ (hLn _) (hF0:=λf hf=>by simp[hf]) ?_;rintro r Ls F1 ⟨p2,k4,k5,k6,rfl,rfl,rfl⟩;have hZ:=HH.learns;have hzl:(Dh pl y).tries.length=y.tries.length:=by have h1:=hZ.tries;have h2:=HH.tries;omega
 rw[<-hzl];obtain⟨z,hz⟩:∃z,z=Dh pl y:=⟨_,I⟩;rw[<-hz];rw[<-hz] at hZ;refine K5 [(0,.o (.p 0 0))] [(0,.c (Gl z p2 pl 1 z.tries.length (.slice a1 rs.length c1)) 116),(1,D9 (z.tries.flatMap Bz++junk) 104)] 2 (C5 (.slice a1 rs.length c1) rs::G7 z p2) (Ac (hF:=by simp;exact λa h=>.inl h)) ?_;replace e4:=k4.trans e4;replace e5:=k5.trans e5;replace e6:=k6.trans e6;clear hLn hzl k4 k5 k6;have hGo:=Ama pl.n pl.l pl.s pl.me z.tok p2.tok hZ.small.1;refine Ao [15] (tqs 0 22<| .op 22 .z) [0] [] [] [] λ_=>?_;refine tqc I5 (λ_=>hGo) (hF0:=λf hf=>B3 _ (Er _ hf)) ?_;refine tqQ ?_;have hnb:Fk pl.n pl.me=true:=by
  have h3:=Hm HH.place;simp[Fk];omega
 have hV:X9 pl.n pl.l pl.s pl.me z.tok=(match L3 pl.s pl.me z.tok with|some z=>.tuple #[.int .i64 z,.bool true,.int .i64 0]|none=>.tuple #[.int .i64 0,.bool false,.int .i64 0]):=by
  unfold X9;rw[hZ.tok,hnb];rfl
 rw[hV];clear hV hnb;have hg:L3 pl.s pl.me (Dh pl y).tok=L3 pl.s pl.me z.tok:=by rw[hz]
 cases hgo:L3 pl.s pl.me z.tok with
 |some to=>
  rw[hgo] at hg;dsimp only;refine En func27 ntmps27 ?_;intro w1 A1 M1 N1 hN1;refine Aj [] [] I7 (λ_=>Ob true 0) ?_;rintro e cs F1 _ ⟨⟨_,rfl⟩|⟨hc,rfl⟩,rfl⟩;rotate_left
  ·cases hc
  refine⟨I,?_⟩;refine Ai (λh1=>?_) λh1=>?_
  ·have hA:=Aly z p2 pl junk a1 c1 rs to hZ.small (by have:=HP.len;rw[hrs,Az];omega) (Wo hZ.tok).2;have hE:=HP.away hon hg (by rw[<-hz];exact h1);rw[<-hz] at hE;refine Cf (mu:=[.c (Gl z p2 pl 1 z.tries.length (.slice a1 rs.length c1)) 116,.r (z.tries.flatMap Bz++junk) 104]) [0,1] I7 ⟨I,I,trivial⟩ hA (hF0:=λf hf=>(Ap.1 hf).elim (λe=>e ▸ .head _) λhf=>B3 _ (Er _ hf)) ?_;rintro r Ls F1 ⟨a2,c2,s,rfl,rfl,rfl⟩;have el:z.tries.length=(K9 z to pl.now).tries.length:=by simp[K9]
   rw[el];subst hrs;have hE2:Gu pl 600 x=(K9 z to pl.now,(ls++[(Of z pl to,s)]).map Prod.fst):=by rw[hE,D6];rfl
   clear hE;have hE:=hE2;have hU:G7 (K9 z to pl.now) p2=G7 z p2:=I;generalize Of z pl to=L1 at*;generalize K9 z to pl.now=z2 at*;rw[Cp];exact Dg [0,1] (.t []) [.c (Gl z2 p2 pl 1 z2.tries.length (.slice a2 (qs++(ls++[(L1,s)])).length c2)) 116,.r (z2.tries.flatMap Bz++junk) 104] (C5 (.slice a2 (qs++(ls++[(L1,s)])).length c2) (qs++(ls++[(L1,s)]))::G7 z2 p2) ⟨I,I,trivial⟩ ⟨p2,a2,c2,(ls++[(L1,s)]),e4,e5,e6,by rw[hE],I,by rw[hE],by rw[hE]⟩ (hF:=λf hf=>by rw[hU] at hf;exact(Ap.1 hf).elim (λe=>Ap.2 (.inl e)) λh=>.tail _ (.tail _ h))
  ·have hE:=HP.stay hon hg (by rw[<-hz];exact h1);rw[<-hz] at hE;subst hrs;exact Dg [0,1] (.t []) [.c (Gl z p2 pl 1 z.tries.length (.slice a1 (qs++ls).length c1)) 116,.r (z.tries.flatMap Bz++junk) 104] (C5 (.slice a1 (qs++ls).length c1) (qs++ls)::G7 z p2) ⟨I,I,trivial⟩ ⟨p2,a1,c1,ls,e4,e5,e6,by rw[hE],I,by rw[hE],by rw[hE]⟩
 |none=>
  rw[hgo] at hg;dsimp only;refine En func27 ntmps27 ?_;intro w1 A1 M1 N1 hN1;refine Aj [] [] I7 (λ_=>Ob true 0) ?_;rintro e cs F1 _ ⟨⟨_,rfl⟩|⟨hc,rfl⟩,rfl⟩;rotate_left
  ·cases hc
  refine⟨I,?_⟩;have hGr:=Aj1 pl.n pl.l pl.s pl.limit z.tok p2.tok hZ.small.1;have hGV:Vl pl.n pl.l pl.s pl.limit z.tok=(match Kt pl.limit z.tok.q (Et z.tok.hs) with|some u=>(Ol z.tok u,Dv u,true,0)|none=>(z.tok,hdZ,false,0)):=by
   unfold Vl;rw[hZ.tok,(Hm HH.place).2.2.2.2.2.2.2];rfl
  rw[hGV] at hGr;clear hGV hGo;obtain⟨tk,hd,b,hR⟩:∃tk hd b,(match Kt pl.limit z.tok.q (Et z.tok.hs) with|some u=>(Ol z.tok u,Dv u,true,0)|none=>(z.tok,hdZ,false,0):Tok×Hd×Bool×Int)=(tk,hd,b,0):=by
   split
   ·exact⟨_,_,_,I⟩
   ·exact⟨_,_,_,I⟩
  rw[hR] at hGr;apply tail1 (α:=Sls)
  ·intro tailA;apply tail1 (α:=Sls)
   ·intro tailB;refine Ao [15,21,22,23,24] (tqs 0 15<| .alt (tqs 15 6<| .alt (tqs 21 5<| .op 26 .z) (.op 22<| .op 21<| .op 23<|.op 24<|.op 25<| .op 26 .z)) (.alt (.op 21<|.alt (tqs 15 6<| tqs 22 4<| .op 26 .z) (.op 22<| tqs 15 6<| .op 23<|.op 24<|.op 25<| .op 26 .z)) (.op 22<|.alt (tqs 15 7<| .op 23<|.op 24<|.op 25<| .op 26 .z) (.op 21<| tqs 15 6<| .op 23<|.op 24<|.op 25<| .op 26 .z)))) [0] [] [] [] λ_=>?_;refine⟨?_,?_⟩
    ·refine Aj [] [] I7 (λ_=>hGr) (hF0:=λf hf=>B3 _ (Er _ hf)) ?_;rintro e cs F1 _ ⟨p3,rfl,rfl⟩;refine tqQ ?_;refine⟨?_,?_⟩
     ·exact tqQ<|tqQ<|tqQ<|tqQ<|Ni [(76,.o (.v (.int .i64 0))),(0,.o (.p 0 0)),(4,.o (.v (.int .i64 0))),(5,.o (.p 2 0)),(6,.o (.p 3 0)),(7,.o (.v (.bool b)))] [(0,.c (Gl z p2 pl 1 z.tries.length (.slice a1 rs.length c1)) 116),(1,D9 (z.tries.flatMap Bz++junk) 104),(2,.c (Ps tk p3) 33),(3,.c ((hdL hd).map SV.v) 170)] 4 (Bs tk p3++(C5 (.slice a1 rs.length c1) rs::G7 z p2)) Ac (tailA p3)
     ·exact tqQ<|tqQ<|tqQ<|tqQ<|Ni [(76,.o (.v (.int .i64 0))),(0,.o (.p 0 0)),(4,.o (.v (.int .i64 0))),(5,.o (.p 3 0)),(6,.o (.p 2 0)),(7,.o (.v (.bool b)))] [(0,.c (Gl z p2 pl 1 z.tries.length (.slice a1 rs.length c1)) 116),(1,D9 (z.tries.flatMap Bz++junk) 104),(3,.c (Ps tk p3) 33),(2,.c ((hdL hd).map SV.v) 170)] 4 (Bs tk p3++(C5 (.slice a1 rs.length c1) rs::G7 z p2)) Ac (tailB p3)
    refine⟨?_,?_⟩
    ·refine tqQ ?_;refine⟨?_,?_⟩
     ·refine Aj [] [] I7 (λ_=>hGr) (hF0:=λf hf=>B3 _ (Er _ hf)) ?_;rintro e cs F1 _ ⟨p3,rfl,rfl⟩;exact tqQ<|tqQ<|tqQ<|tqQ<|Ni [(76,.o (.v (.int .i64 0))),(0,.o (.p 0 0)),(4,.o (.v (.int .i64 0))),(5,.o (.p 2 0)),(6,.o (.p 3 0)),(7,.o (.v (.bool b)))] [(0,.c (Gl z p2 pl 1 z.tries.length (.slice a1 rs.length c1)) 116),(1,D9 (z.tries.flatMap Bz++junk) 104),(2,.c (Ps tk p3) 33),(3,.c ((hdL hd).map SV.v) 170)] 4 (Bs tk p3++(C5 (.slice a1 rs.length c1) rs::G7 z p2)) Ac (tailA p3)
     ·refine tqQ<|Aj [] [] I7 (λ_=>hGr) (hF0:=λf hf=>B3 _ (Er _ hf)) ?_;rintro e cs F1 _ ⟨p3,rfl,rfl⟩;exact tqQ<|tqQ<|tqQ<|Ni [(76,.o (.v (.int .i64 0))),(0,.o (.p 0 0)),(4,.o (.v (.int .i64 0))),(5,.o (.p 2 0)),(6,.o (.p 3 0)),(7,.o (.v (.bool b)))] [(0,.c (Gl z p2 pl 1 z.tries.length (.slice a1 rs.length c1)) 116),(1,D9 (z.tries.flatMap Bz++junk) 104),(2,.c (Ps tk p3) 33),(3,.c ((hdL hd).map SV.v) 170)] 4 (Bs tk p3++(C5 (.slice a1 rs.length c1) rs::G7 z p2)) Ac (tailA p3)
    ·refine tqQ ?_;refine⟨?_,?_⟩
     ·refine Aj [] [] I7 (λ_=>hGr) (hF0:=λf hf=>B3 _ (Er _ hf)) ?_;rintro e cs F1 _ ⟨p3,rfl,rfl⟩;exact tqQ<|tqQ<|tqQ<|tqQ<|Ni [(76,.o (.v (.int .i64 0))),(0,.o (.p 0 0)),(4,.o (.v (.int .i64 0))),(5,.o (.p 3 0)),(6,.o (.p 2 0)),(7,.o (.v (.bool b)))] [(0,.c (Gl z p2 pl 1 z.tries.length (.slice a1 rs.length c1)) 116),(1,D9 (z.tries.flatMap Bz++junk) 104),(3,.c (Ps tk p3) 33),(2,.c ((hdL hd).map SV.v) 170)] 4 (Bs tk p3++(C5 (.slice a1 rs.length c1) rs::G7 z p2)) Ac (tailB p3)
     ·refine tqQ<|Aj [] [] I7 (λ_=>hGr) (hF0:=λf hf=>B3 _ (Er _ hf)) ?_;rintro e cs F1 _ ⟨p3,rfl,rfl⟩;exact tqQ<|tqQ<|tqQ<|Ni [(76,.o (.v (.int .i64 0))),(0,.o (.p 0 0)),(4,.o (.v (.int .i64 0))),(5,.o (.p 3 0)),(6,.o (.p 2 0)),(7,.o (.v (.bool b)))] [(0,.c (Gl z p2 pl 1 z.tries.length (.slice a1 rs.length c1)) 116),(1,D9 (z.tries.flatMap Bz++junk) 104),(3,.c (Ps tk p3) 33),(2,.c ((hdL hd).map SV.v) 170)] 4 (Bs tk p3++(C5 (.slice a1 rs.length c1) rs::G7 z p2)) Ac (tailB p3)
   ·intro p3;refine En func27 ntmps27 ?_;intro w2 A2 M2 N2 hN2;refine Aj [] [] I7 (λ_=>Ob true 0) ?_;rintro e cs F1 _ ⟨⟨_,rfl⟩|⟨hc,rfl⟩,rfl⟩;rotate_left
    ·cases hc
    refine⟨I,?_⟩;cases hn:Kt pl.limit z.tok.q (Et z.tok.hs) with
    |none=>
     have hE:=HP.no hon hg (by rw[<-hz];exact hn);rw[<-hz] at hE;rw[hn] at hR;cases hR;subst hrs;exact Dg [0,1] (.t []) [.c (Gl z p2 pl 1 z.tries.length (.slice a1 (qs++ls).length c1)) 116,.r (z.tries.flatMap Bz++junk) 104] (C5 (.slice a1 (qs++ls).length c1) (qs++ls)::G7 z p2) ⟨I,I,trivial⟩ ⟨p2,a1,c1,ls,e4,e5,e6,by rw[hE],I,by rw[hE],by rw[hE]⟩ (hF:=λf hf=>show f∈Bs z.tok p3++(C5 (.slice a1 (qs++ls).length c1) (qs++ls)::G7 z p2) from Ch _ hf)
    |some u=>
     have hSt:=λl2 h2=>HP.step (u:=u) (l2:=l2) hon hg (by rw[<-hz];exact hn) h2;rw[<-hz] at hSt;have hGt:=GrtH.of hZ.tok hn;have hsi:=Rq hGt.hd;have hsn:=(Hm HH.place).2.1.1;rw[hn] at hR;cases hR;obtain⟨P4,hP4⟩:∃P4:LckS,P4=⟨p3,p2.a4,p2.c4,p2.a5,p2.c5,p2.a6,p2.c6⟩:=⟨_,I⟩;refine K5 [(0,.o (.p 0 0)),(6,.o (.p 2 0))] [(0,.c (Gl (grT z u) P4 pl 1 z.tries.length (.slice a1 rs.length c1)) 116),(1,D9 (z.tries.flatMap Bz++junk) 104),(2,.c ((hdL (Dv u)).map SV.v) 170)] 4 (C5 (.slice a1 rs.length c1) rs::G7 (grT z u) P4) (by subst hP4;exact Ac (hF:=λf hf=>show f∈Bs (Ol z.tok u) p3++(C5 (.slice a1 rs.length c1) rs::G7 z p2) from(Ap.1 hf).elim (λe=>Ch _ (Ap.2 (.inl e))) λhf=>(B4.1 hf).elim (λh=>Er _ h) λh=>Ch _ (B3 _ (Ch _ h)))) ?_;refine Ao [3,13] (.op 0<|.op 1<|.op 2<| tqs 4 5<| .op 3<| tqs 9 6<| .op 15 .z) [0,2] [] [] [] λ_=>?_;refine Aj (F0:=[]) [0] [] I7 (λρ=>Ul (grT z u) P4 pl (.slice (some ⟨ρ 1,0,none⟩) z.tries.length P4.c6) (.slice a1 rs.length c1) (ρ 0) (Dv u).site hsn tqO) (hno:=.inr tqH) ?_;rintro e cs F1 _ ⟨rfl,rfl⟩;refine tqQ<|A7 (λg1=>?_) λg1=>?_
     ·refine tqc I5 (λ_=>Zh u.w.mode) ?_;refine tqQ ?_;have g3:((Dv u).site.tdiv pl.s == pl.me)=false:=by simpa using g1
      cases g2:(u.w.mode == 5)
      ·have hl:Ie pl (grT z u) (Dv u)=[G8 (grT z u) pl (Dv u)]:=by
        unfold Ie;rw[g3,show ((Dv u).mode == 5)=false from g2];rfl
       have hGs:=SI (grT z u) P4 pl z.tries.length (z.tries.flatMap Bz++junk) a1 c1 rs (Dv u) (by have:=HP.len;rw[hrs,Az];omega) hsn tqO;refine Cf (mu:=[.c (Gl (grT z u) P4 pl 1 z.tries.length (.slice a1 rs.length c1)) 116,.r (z.tries.flatMap Bz++junk) 104]) [0,1] I7 ⟨I,I,trivial⟩ hGs (hF0:=λf hf=>Ap.2 (.inl (Bc.1 hf))) ?_;rintro r Ls F1 ⟨a2,c2,rfl,rfl,rfl⟩;subst hrs;refine⟨I,(f- 1,grT z u,P4,a2,c2,ls++[(G8 (grT z u) pl (Dv u),Dx)]),⟨hSt _ (by rw[hl];rfl),by subst hP4;exact e4,by subst hP4;exact e5,by subst hP4;exact e6⟩,by have:=HP.pos;dsimp only;omega,?_⟩;simp only[<-Cp];exact Ac (hF:=λf hf=>(Ap.1 hf).elim (λe=>Ap.2 (.inl e)) λh=>.tail _ (.tail _ h))
      ·have hl:Ie pl (grT z u) (Dv u)=[]:=by
        unfold Ie;rw[show ((Dv u).mode == 5)=true from g2,Jz,L6];rfl
       subst hrs;refine⟨I,(f- 1,grT z u,P4,a1,c1,ls),⟨by have h0:=hSt [] (by rw[hl];rfl);rwa[Bu] at h0,by subst hP4;exact e4,by subst hP4;exact e5,by subst hP4;exact e6⟩,by have:=HP.pos;dsimp only;omega,?_⟩;exact Ac
     ·have g3:((Dv u).site.tdiv pl.s == pl.me)=true:=by simpa using g1
      have hl:Ie pl (grT z u) (Dv u)=[]:=by
       unfold Ie;rw[g3,Jz,Hb];rfl
      subst hrs;refine⟨I,(f- 1,grT z u,P4,a1,c1,ls),⟨by have h0:=hSt [] (by rw[hl];rfl);rwa[Bu] at h0,by subst hP4;exact e4,by subst hP4;exact e5,by subst hP4;exact e6⟩,by have:=HP.pos;dsimp only;omega,?_⟩;exact Ac
  ·intro p3;refine En func27 ntmps27 ?_;intro w2 A2 M2 N2 hN2;refine Aj [] [] I7 (λ_=>Ob true 0) ?_;rintro e cs F1 _ ⟨⟨_,rfl⟩|⟨hc,rfl⟩,rfl⟩;rotate_left
   ·cases hc
   refine⟨I,?_⟩;cases hn:Kt pl.limit z.tok.q (Et z.tok.hs) with
   |none=>
    have hE:=HP.no hon hg (by rw[<-hz];exact hn);rw[<-hz] at hE;rw[hn] at hR;cases hR;subst hrs;exact Dg [0,1] (.t []) [.c (Gl z p2 pl 1 z.tries.length (.slice a1 (qs++ls).length c1)) 116,.r (z.tries.flatMap Bz++junk) 104] (C5 (.slice a1 (qs++ls).length c1) (qs++ls)::G7 z p2) ⟨I,I,trivial⟩ ⟨p2,a1,c1,ls,e4,e5,e6,by rw[hE],I,by rw[hE],by rw[hE]⟩ (hF:=λf hf=>show f∈Bs z.tok p3++(C5 (.slice a1 (qs++ls).length c1) (qs++ls)::G7 z p2) from Ch _ hf)
   |some u=>
    have hSt:=λl2 h2=>HP.step (u:=u) (l2:=l2) hon hg (by rw[<-hz];exact hn) h2;rw[<-hz] at hSt;have hGt:=GrtH.of hZ.tok hn;have hsi:=Rq hGt.hd;have hsn:=(Hm HH.place).2.1.1;rw[hn] at hR;cases hR;obtain⟨P4,hP4⟩:∃P4:LckS,P4=⟨p3,p2.a4,p2.c4,p2.a5,p2.c5,p2.a6,p2.c6⟩:=⟨_,I⟩;refine K5 [(0,.o (.p 0 0)),(6,.o (.p 3 0))] [(0,.c (Gl (grT z u) P4 pl 1 z.tries.length (.slice a1 rs.length c1)) 116),(1,D9 (z.tries.flatMap Bz++junk) 104),(3,.c ((hdL (Dv u)).map SV.v) 170)] 4 (C5 (.slice a1 rs.length c1) rs::G7 (grT z u) P4) (by subst hP4;exact Ac (hF:=λf hf=>show f∈Bs (Ol z.tok u) p3++(C5 (.slice a1 rs.length c1) rs::G7 z p2) from(Ap.1 hf).elim (λe=>Ch _ (Ap.2 (.inl e))) λhf=>(B4.1 hf).elim (λh=>Er _ h) λh=>Ch _ (B3 _ (Ch _ h)))) ?_;refine Ao [3,13] (.op 0<|.op 1<|.op 2<| tqs 4 5<| .op 3<| tqs 9 6<| .op 15 .z) [0,3] [] [] [] λ_=>?_;refine Aj (F0:=[]) [0] [] I7 (λρ=>Ul (grT z u) P4 pl (.slice (some ⟨ρ 1,0,none⟩) z.tries.length P4.c6) (.slice a1 rs.length c1) (ρ 0) (Dv u).site hsn tqO) (hno:=.inr tqH) ?_;rintro e cs F1 _ ⟨rfl,rfl⟩;refine tqQ<|A7 (λg1=>?_) λg1=>?_
    ·refine tqc I5 (λ_=>Zh u.w.mode) ?_;refine tqQ ?_;have g3:((Dv u).site.tdiv pl.s == pl.me)=false:=by simpa using g1
     cases g2:(u.w.mode == 5)
     ·have hl:Ie pl (grT z u) (Dv u)=[G8 (grT z u) pl (Dv u)]:=by
       unfold Ie;rw[g3,show ((Dv u).mode == 5)=false from g2];rfl
      have hGs:=SI (grT z u) P4 pl z.tries.length (z.tries.flatMap Bz++junk) a1 c1 rs (Dv u) (by have:=HP.len;rw[hrs,Az];omega) hsn tqO;refine Cf (mu:=[.c (Gl (grT z u) P4 pl 1 z.tries.length (.slice a1 rs.length c1)) 116,.r (z.tries.flatMap Bz++junk) 104]) [0,1] I7 ⟨I,I,trivial⟩ hGs (hF0:=λf hf=>Ap.2 (.inl (Bc.1 hf))) ?_;rintro r Ls F1 ⟨a2,c2,rfl,rfl,rfl⟩;subst hrs;refine⟨I,(f- 1,grT z u,P4,a2,c2,ls++[(G8 (grT z u) pl (Dv u),Dx)]),⟨hSt _ (by rw[hl];rfl),by subst hP4;exact e4,by subst hP4;exact e5,by subst hP4;exact e6⟩,by have:=HP.pos;dsimp only;omega,?_⟩;simp only[<-Cp];exact Ac (hF:=λf hf=>(Ap.1 hf).elim (λe=>Ap.2 (.inl e)) λh=>.tail _ (.tail _ h))
     ·have hl:Ie pl (grT z u) (Dv u)=[]:=by
       unfold Ie;rw[show ((Dv u).mode == 5)=true from g2,Jz,L6];rfl
      subst hrs;refine⟨I,(f- 1,grT z u,P4,a1,c1,ls),⟨by have h0:=hSt [] (by rw[hl];rfl);rwa[Bu] at h0,by subst hP4;exact e4,by subst hP4;exact e5,by subst hP4;exact e6⟩,by have:=HP.pos;dsimp only;omega,?_⟩;exact Ac
    ·have g3:((Dv u).site.tdiv pl.s == pl.me)=true:=by simpa using g1
     have hl:Ie pl (grT z u) (Dv u)=[]:=by
      unfold Ie;rw[g3,Jz,Hb];rfl
     subst hrs;refine⟨I,(f- 1,grT z u,P4,a1,c1,ls),⟨by have h0:=hSt [] (by rw[hl];rfl);rwa[Bu] at h0,by subst hP4;exact e4,by subst hP4;exact e5,by subst hP4;exact e6⟩,by have:=HP.pos;dsimp only;omega,?_⟩;exact Ac
def Aje (x:Lck) (p:LckS) (pl:Plc) (kk kt mk mt:Nat) (lv:Value):List SV:=[.v (.bool x.tree),.v (.bool x.has),.v (.int .i64 x.tok.age),.v (.slice p.tok.a1 x.tok.seq.length p.tok.c1),.v (.slice p.tok.a2 x.tok.q.length p.tok.c2),.v (.slice p.tok.a3 x.tok.hs.length p.tok.c3),.v (.int .i64 x.tok.c.value),.v (.int .i64 x.tok.c.floor),.v (.int .u64 x.tok.c.version),.v (.int .i64 x.last),.v (.int .i64 x.own.node),.v (.int .i64 x.own.hop),.s kk 0 mk p.c4,.v (.slice p.a5 x.slots.length p.c5),.s kt 0 mt p.c6,.v (.int .i64 pl.n),.v (.int .i64 pl.l),.v (.int .i64 pl.s),.v (.int .i64 pl.me),.v (.int .i64 pl.lock),.v (.int .i64 pl.limit),.v (.int .i64 pl.retry),.v (.int .i64 pl.far),.v (.int .i64 pl.now),.v (.bool pl.still),.v lv]
def SU (pl:Plc) (x:Lck):Ku:=λr Ls F1=>(Pe pl x=true/\∃(p':LckS) (jt jk:List Value),x.known.length<=p'.c4/\x.tries.length<=p'.c6/\r=.inl (.o (.p 0 0))/\Ls=[.c (Aje x p' pl 2 1 x.known.length x.tries.length (.slice none 0 0)) 116,.r (x.tries.flatMap Bz++jt) 104,.r (x.known.flatMap Bv++jk) 74]/\F1=Bs x.tok p'.tok++[slF Bm 8 (.slice p'.a5 x.slots.length p'.c5) x.slots])\/(Pe pl x=false/\r=.inr Ail/\Ls=[]/\F1=[])
theorem OT (pl:Plc) (x:Lck) (p:LckS) (hx:x.small):Cx prog 37 [.g [.v (.int .i64 pl.n),.v (.int .i64 pl.l),.v (.int .i64 pl.s),.v (.int .i64 pl.me),.v (.int .i64 pl.lock),.v (.int .i64 pl.limit),.v (.int .i64 pl.retry),.v (.int .i64 pl.far),.v (.int .i64 pl.now),.v (.bool pl.still)],.g [.v (.bool x.tree),.v (.bool x.has),.v (.int .i64 x.tok.age),.v (.slice p.tok.a1 x.tok.seq.length p.tok.c1),.v (.slice p.tok.a2 x.tok.q.length p.tok.c2),.v (.slice p.tok.a3 x.tok.hs.length p.tok.c3),.v (.int .i64 x.tok.c.value),.v (.int .i64 x.tok.c.floor),.v (.int .u64 x.tok.c.version),.v (.int .i64 x.last),.v (.int .i64 x.own.node),.v (.int .i64 x.own.hop),.v (.slice p.a4 x.known.length p.c4),.v (.slice p.a5 x.slots.length p.c5),.v (.slice p.a6 x.tries.length p.c6)]] [] (C7 x p) (SU pl x):=by
 obtain⟨⟨hx1,hx2,hx3⟩,hx4,hx5,hx6⟩:=id hx;have hB:Pe pl x=(J9 pl&&Ru pl x&&Tq pl.s x.tries&&Vy (pl.me*pl.s).toNat x.known x.slots&&AS pl.n pl.l pl.s x):=I;unfold C7 SU;generalize Pe pl x=B at hB;refine tqx func37 ntmps37 ?_;intro ρ w0 A0;refine Aj [] [] I7 (λ_=>HB pl) ?_;rintro e cs F1 _ ⟨⟨hb,rfl⟩|⟨hb,rfl⟩,rfl⟩;rotate_left
 ·exact Uh [] [] [] I ⟨I,I⟩ I I tqS trivial I (.inr ⟨by rw[hB,hb];rfl,I,I,I⟩) tqS
 refine B8 (u:=.g [.f (.func 74) [.p 2 0] [],.f (.func 75) [.p 2 0] [],.f (.func 76) [.p 2 0] [],.f (.func 77) [.p 2 0] []]) Ha ?_;refine Hj 5 ?_;refine B8 (Io (i:=0) (m:=4)) ?_;refine Aj [2] [] I7 (F0:=C7 x p) (λρ=>Akc x p pl (ρ 2) hx) (hF0:=by simp[C7]) (hno:=.inr tqH) ?_;rintro e cs F1 _ ⟨rfl,rfl⟩;refine Aj [] [] I7 (λ_=>G9 (Ru pl x)) ?_;rintro e cs F1 _ ⟨⟨hb1,rfl⟩|⟨hb1,rfl⟩,rfl⟩;rotate_left
 ·exact Uh [] [] [] I ⟨I,I⟩ I I tqS trivial I (.inr ⟨by rw[hB,hb1];simp,I,I,I⟩) tqS
 refine Af (z:=1) ?_;obtain⟨f1,f2,f3,f4,f5,f6,f7⟩:=GZ hb hb1;refine B8 (Io (i:=1) (m:=4)) ?_;refine Aj [2] [] I7 (F0:=C7 x p) (λρ=>Alm x p pl (ρ 2) hx) (hF0:=by simp[C7]) (hno:=.inr tqH) ?_;rintro e cs F1 _ ⟨rfl,rfl⟩;refine Aj [] [] I7 (λ_=>G9 (Tq pl.s x.tries)) ?_;rintro e cs F1 _ ⟨⟨hb2,rfl⟩|⟨hb2,rfl⟩,rfl⟩;rotate_left
 ·exact Uh [] [] [] I ⟨I,I⟩ I I tqS trivial I (.inr ⟨by rw[hB,hb2];simp,I,I,I⟩) tqS
 refine Af (z:=2) ?_;refine B8 (Io (i:=2) (m:=4)) ?_;refine Aj [2] [] I7 (F0:=C7 x p) (λρ=>Aln x p pl (ρ 2) (pl.me*pl.s).toNat f1 hx f2 f3) (hF0:=by simp[C7]) (hno:=.inr tqH) ?_;rintro e cs F1 _ ⟨rfl,rfl⟩;refine Aj [] [] I7 (λ_=>G9 (Vy (pl.me*pl.s).toNat x.known x.slots)) ?_;rintro e cs F1 _ ⟨⟨hb3,rfl⟩|⟨hb3,rfl⟩,rfl⟩;rotate_left
 ·exact Uh [] [] [] I ⟨I,I⟩ I I tqS trivial I (.inr ⟨by rw[hB,hb3];simp,I,I,I⟩) tqS
 refine Af (z:=3) ?_;refine B8 (Io (i:=3) (m:=4)) ?_;refine Aj [2] [] I7 (F0:=C7 x p) (λρ=>Acq x p pl (ρ 2) hx) (hF0:=by simp[C7]) (hno:=.inr tqH) ?_;rintro e cs F1 _ ⟨rfl,rfl⟩;refine Aj [] [] I7 (λ_=>G9 (AS pl.n pl.l pl.s x)) ?_;rintro e cs F1 _ ⟨⟨hb4,rfl⟩|⟨hb4,rfl⟩,rfl⟩;rotate_left
 ·exact Uh [] [] [] I ⟨I,I⟩ I I tqS trivial I (.inr ⟨by rw[hB,hb4];simp,I,I,I⟩) tqS
 refine Af (z:=4) ?_;have hkl:0<x.known.length:=by
  simp only[Ru,Hn,Ad,Aq] at hb1;have:=Um (by simp only[J9,Ad] at hb;exact hb.1.1.1.1.1:Ef pl.n pl.l pl.s=true);omega
 have htl:0<x.tries.length:=by
  simp only[Tq,Ad,Aq] at hb2;have:=(Hm hb).2.1;omega
 refine Ao [6,10,14,19,24,29] (tqs 0 6<| .op 7<|.op 8<|.op 9<| .op 11<|.op 12<|.op 13<| .op 6<| .op 10<| tqs 14 15<| .op 29 .z) [1] [] [] [] λ_=>?_;refine Aj [] [] I7 (λ_=>OE p.tok.a1 p.tok.c1 x.tok.seq hx1) ?_;rintro e cs F1 _ ⟨a1,c1,rfl,rfl⟩;refine tqQ<|Aj [] [] I7 (λ_=>BX p.tok.a2 p.tok.c2 x.tok.q hx2) ?_;rintro e cs F1 _ ⟨a2,c2,rfl,rfl⟩;refine tqQ<|Aj [] [] I7 (λ_=>BW p.tok.a3 p.tok.c3 x.tok.hs hx3) ?_;rintro e cs F1 _ ⟨a3,c3,rfl,rfl⟩;refine tqQ<|tqQ<|tqQ<|tqQ<|Rl (σ:=⟨[(5,.o (.p 2 0)),(3,.o (.p 1 0))],[(2,.c [.v (.bool x.tree),.v (.bool x.has),.v (.int .i64 x.tok.age),.v (.slice a1 x.tok.seq.length c1),.v (.slice a2 x.tok.q.length c2),.v (.slice a3 x.tok.hs.length c3),.v (.int .i64 x.tok.c.value),.v (.int .i64 x.tok.c.floor),.v (.int .u64 x.tok.c.version),.v (.int .i64 x.last),.v (.int .i64 x.own.node),.v (.int .i64 x.own.hop),.v (.slice p.a4 x.known.length p.c4),.v (.slice p.a5 x.slots.length p.c5),.v (.slice p.a6 x.tries.length p.c6),.v (.int .i64 pl.n),.v (.int .i64 pl.l),.v (.int .i64 pl.s),.v (.int .i64 pl.me),.v (.int .i64 pl.lock),.v (.int .i64 pl.limit),.v (.int .i64 pl.retry),.v (.int .i64 pl.far),.v (.int .i64 pl.now),.v (.bool pl.still),.v (.slice none 0 0)] 116),(1,.c [.v (.bool x.tree),.v (.bool x.has),.v (.int .i64 x.tok.age),.v (.slice p.tok.a1 x.tok.seq.length p.tok.c1),.v (.slice p.tok.a2 x.tok.q.length p.tok.c2),.v (.slice p.tok.a3 x.tok.hs.length p.tok.c3),.v (.int .i64 x.tok.c.value),.v (.int .i64 x.tok.c.floor),.v (.int .u64 x.tok.c.version),.v (.int .i64 x.last),.v (.int .i64 x.own.node),.v (.int .i64 x.own.hop),.v (.slice p.a4 x.known.length p.c4),.v (.slice p.a5 x.slots.length p.c5),.v (.slice p.a6 x.tries.length p.c6)] 40)],3,[slF Bt 1 (.slice a1 x.tok.seq.length c1) x.tok.seq,slF wtL 5 (.slice a2 x.tok.q.length c2) x.tok.q,slF hdL 3 (.slice a3 x.tok.hs.length c3) x.tok.hs,slF Bv 4 (.slice p.a4 x.known.length p.c4) x.known,slF Bm 8 (.slice p.a5 x.slots.length p.c5) x.slots,slF Bz 3 (.slice p.a6 x.tries.length p.c6) x.tries],λ_=>[]⟩) Ac ?_;refine Ao [5,8,11,15,19,23] (tqs 0 5<| .op 6<|.op 7<| .op 9<|.op 10<| .op 5<| .op 8<| tqs 11 12<| .op 23 .z) [1] [] [] [] λ_=>?_;refine Cf (mu:=[]) [] I7 trivial ((WC p.a4 p.c4 x.known tqO).cx (us:=[.o (.v (.slice p.a4 x.known.length p.c4))]) (λ_=>I) tqO) ?_;rintro r Ls F1 ⟨c4,j4,hc4,rfl,rfl,rfl⟩;refine tqQ<|Aj [] [] I7 (λ_=>Wz p.a5 p.c5 x.slots hx5) ?_;rintro e cs F1 _ ⟨a5,c5,rfl,rfl⟩;refine tqQ<|Cf (mu:=[]) [] I7 trivial ((WD p.a6 p.c6 x.tries tqO).cx (us:=[.o (.v (.slice p.a6 x.tries.length p.c6))]) (λ_=>I) tqO) ?_;rintro r Ls F1 ⟨c6,j6,hc6,rfl,rfl,rfl⟩;refine tqQ<|tqQ<|tqQ<|tqQ<|Dg [2,4,3] (.o (.p 0 0)) [.c (Aje x ⟨⟨a1,c1,a2,c2,a3,c3⟩,none,c4,a5,c5,none,c6⟩ pl 2 1 x.known.length x.tries.length (.slice none 0 0)) 116,.r (x.tries.flatMap Bz++j6) 104,.r (x.known.flatMap Bv++j4) 74] (Bs x.tok ⟨a1,c1,a2,c2,a3,c3⟩++[slF Bm 8 (.slice a5 x.slots.length c5) x.slots]) ⟨I,I,I,trivial⟩ (.inl ⟨by rw[hB,hb,hb1,hb2,hb3,hb4];rfl,⟨⟨a1,c1,a2,c2,a3,c3⟩,none,c4,a5,c5,none,c6⟩,j6,j4,hc4,hc6,I,I,I⟩) (hF:=by simp[Bs])
end Go.Proofs.YtjofafbkkpdgbaaGreat
