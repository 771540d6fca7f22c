/- A part of the proof of LockOpens: rules and contracts. No condition. -/
import Derived.Test.YtjofafbkkpdgbaaGreatPnac
import Derived.Test.YtjofafbkkpdgbaaGreatProg
set_option linter.all false
namespace Go.Proofs.YtjofafbkkpdgbaaGreat
open Go.Proofs.Tryz
open Go.RowKit Go.Shelf
section
variable {α:Type} {e:TypeId} {sz:Nat} {enc:α->List Value} {m l:Nat} {g:Nat->Nat} {R:Nat->List α}
variable {X:Fx} {T:TE} {L:LE} {n:Nat} {F:List Fact} {D:DF}
end
theorem OJ {zs:List Value} (hz:0<zs.length):∀m:Nat,(List.range (m*zs.length)).map (λi=>zs.toArray[i % zs.toArray.size]!)=(List.replicate m ()).flatMap λ_=>zs
 |0=>by simp
 |m+1=>by
  have ih:=OJ hz m;rw[Id,List.range_add,D6,ih,List.replicate_succ',Em]
  congr 1
  simp only[E1,Nj,Bu,Fp];apply List.ext_getElem
  ·simp
  ·intro i h1 h2;have hi:i<zs.length:=h2;simp[Nat.add_mod,Nat.mod_eq_of_lt hi,hi]
variable {α:Type} {enc:α->List Value}
theorem P0 {z:α} {zs:List Value} (hz:0<zs.length) (he:enc z=zs) (m:Nat):(madeCells zs.toArray (m*zs.length)).toList=(List.replicate m z).flatMap enc:=by
 have:=OJ hz m;simp only[madeCells,Di,Xb];rw[this];clear this;induction m with
 |zero=>rfl
 |succ m ih=>rw[V2,V2,E1,E1,ih,he]
section
variable {X:Fx} {T:TE} {L:LE} {F:List Fact}
end
theorem Mb {X:Fx} {o:Oper} {T:TE} {L:LE} {n:Nat} {F:List Fact} {D:DF} {k:KS} {K:KK} {u:TV} (hy:Yd X o T L F u) (h:R1 X o T L n F D k u):OJs X o T L n F D k K:=Au hy h
theorem Pb {X:Fx} {o:Oper} {T:TE} {L:LE} {F:List Fact} {bop:BinOp} {t t2:TypeId} {x y:Operand} {ux uy:TV} {u v r:Value} (ho:o.op=.binOp bop t x y t2) (hx:evS T x=some ux) (hy:evS T y=some uy) (hu:∀ρ,ux.den ρ=u) (hv:∀ρ,uy.den ρ=v)
  (hg:∀w,(eqGuard bop t x y u v).run X.P w=.ok () w) (hb:∀w,(binOp bop t u v).run X.P w=.ok r w):Yd X o T L F (.o (.v r)):=by
 refine⟨by simp[Cw,ho],λA ρ a w h0=>?_⟩;have e1:=h0.ev hx;have e2:=h0.ev hy;rw[hu] at e1;rw[hv] at e2;simp only[execOp,ho,e1,e2,Ba,hg,An,hb,Bh,TV.den,SV.den]
def FN:List SV->Option (List Value)
 | []=>some []
 | .v x::r=>match FN r with
  |some vs=>some (x::vs)
  |none=>none
 |_=>none
theorem GT {ρ:Nm}:∀ {xs:List SV} {vs:List Value},FN xs=some vs->C4 ρ xs=vs
 | [],vs,h=>by cases h;rfl
 | .v x::r,vs,h=>by
  unfold FN at h;split at h
  ·rename_i vs' hv;cases h;rw[show C4 ρ (.v x::r)=x::C4 ρ r from I,GT hv]
  ·cases h
 | .p _ _::r,vs,h=>by cases h
 | .s _ _ _ _::r,vs,h=>by cases h
 | .f _ _ _::r,vs,h=>by cases h
def Aif:TV->Option SV
 | .o x=>some x
 | .g xs=>match FN xs with
  |some vs=>some (.v (.agg vs.toArray))
  |none=>none
 | .t _=>none
variable {ρ:Nm}
theorem Aig {u:TV} {x:SV} (h:Aif u=some x):u.den ρ=x.den ρ:=by
 unfold Aif at h;split at h
 ·cases h;rfl
 ·split at h
  ·rename_i vs hv;cases h;simp only[TV.den,SV.den,GT hv]
  ·cases h
 ·cases h
def svL:List TV->Option (List SV)
 | []=>some []
 |u::r=>match Aif u with
  |some x=>match svL r with
   |some xs=>some (x::xs)
   |none=>none
  |none=>none
theorem YQ {ρ:Nm}:∀ {us:List TV} {xs:List SV},svL us=some xs->us.map (TV.den ρ)=C4 ρ xs
 | [],_,h=>by cases h;rfl
 |u::r,xs,h=>by
  unfold svL at h;split at h
  ·rename_i x hx;split at h
   ·rename_i ys hy;cases h;rw[Bj,Aig hx,YQ hy];rfl
   ·cases h
  ·cases h
def Abl:List TV->Option TV
 | [u]=>some u
 |us=>match svL us with
  |some xs=>some (.t xs)
  |none=>none
theorem UT {us:List TV} {u:TV} (h:Abl us=some u):Uo ρ us=u.den ρ:=by
 unfold Abl at h;split at h
 ·cases h;rfl
 ·rename_i hn;split at h
  ·rename_i xs hx;cases h;rw[show Uo ρ us=.tuple (us.map (TV.den ρ)).toArray from ?_]
   ·rw[YQ hx];rfl
   ·unfold Uo;split
    ·exact(hn _ I).elim
    ·rfl
  ·cases h
section
variable {X:Fx} {o:Oper} {T:TE} {L:LE} {n:Nat} {F:List Fact} {D:DF} {K:KK} {k:KS} {c:Code}
def DM (fi:List PV) (us:List TV) (ca:List PV):List TV:=fi.map (λp=>.o (match p with| .v x=>.v x| .p k o=>.p k o))++us++ca.map (λp=>.o (match p with| .v x=>.v x| .p k o=>.p k o))
theorem IB {ρ:Nm} {fi ca:List PV} {us:List TV}:(DM fi us ca).map (TV.den ρ)=Gn ρ fi us ca:=by
 have h:∀l:List PV,(l.map (λp=>TV.o (match p with| .v x=>.v x| .p k o=>.p k o))).map (TV.den ρ)=l.map (PV.den ρ):=by
  intro l;rw[Fp];refine Gv λp _=>?_;cases p<;>rfl
 simp only[DM,Gn,D6,h]
def Fi (X:Fx) (kc:Nat) (w:World) (A:Nat->Prop) (M N:List Nat):Fx:=⟨X.P,X.tab,X.ok,none,8,kc,w,A,M,N⟩
theorem Rel.inl {w w':World} {A:Nat->Prop} {M N:List Nat} {a a':Act} {r:Option Nat} {nn kc:Nat} {T' T2:TE} {L':LE} {n':Nat} {F':List Fact} {D':DF} {u:TV} {v:Value} {d:Option Nat}
  (hold:Rel (Rt X r nn w A M N) T L n F D a w) (hN:N.length=n) (anc:Anc X A w M) (hNN:∀i b,i<n->X.N[i]? =some b->N[i]? =some b) (hXN:X.N.length<=n)
  (h:Rel (Fi X kc w A M N) T' L' n' F' D' a' w') (hv:∀A2 ρ,Rel0 (Fi X kc w A M N) T' L' F' D' A2 ρ a' w'->v=u.den ρ) (hp:E7 X.k d u T=some T2):Rel X T2 L' n' F' D (a.put d v) w':=by
 obtain⟨hkb,ρ1,A2,h0⟩:=h;obtain⟨_,ρ2,A1,h1⟩:=hold;refine⟨hkb,ρ1,A2,λρ hρ=>?_⟩;have h2:=h0 ρ hρ;have e:∀j,j<n->ρ j=ρ2 j:=λj hj=>by
  have g:N[j]? =some (N[j]'tqO):=A8 tqO;rw[h2.mb j _ g,(h1 ρ2 λ_ _=>I).mb j _ g]
 have h3:=h1 ρ e;obtain⟨⟨e1,e2⟩,e3⟩:=FY hp h3.sz h3.tm (hv A2 ρ h2);have hk:=h2.kp;have sz1:=anc.kp.size;refine⟨⟨e3,h2.lo,h2.a3⟩,e1,by rw[e2];exact h3.df,⟨hk.os.trans anc.kp.os,hk.tape.trans anc.kp.tape,hk.output.trans anc.kp.output,Bf sz1 hk.size,λb hb hm=>?_⟩,λk e b hke hbk=>?_,h2.ds,λb hb=>?_,h2.a2,λi b hi=>?_⟩
 ·refine(hk.keep b (Aw hb sz1) λhbM=>?_).trans (anc.kp.keep b hb hm);rcases anc.m b hbM with h|h
  ·exact hm h
  ·omega
 ·rcases h2.nw k e b hke hbk with h|h
  ·exact anc.m b h
  ·exact .inr (Bf sz1 h)
 ·rcases h2.a1 b hb with h|h
  ·exact anc.a b h
  ·exact .inr (Bf sz1 h)
 ·exact h2.mb i b (hNN i b (Aw (Aa.1 hi).1 hXN) hi)
theorem Rel.hN {a:Act} {w:World} (h:Rel X T L n F D a w):X.N.length<=n:=by
 obtain⟨_,ρ0,A,h0⟩:=h;refine Nat.not_lt.1 λhlt=>?_;have hb:=A8 hlt;have:=(h0 (λj=>if j=n then X.N[n]+1 else ρ0 j) λj hj=>Ar (Km hj)).mb n _ hb;simp at this
theorem Al0 {id:Nat} {ops:Array Oper} (eff:List Nat) (sch:Sd) (vk:List Nat) (st:List (Nat×Nat)) (keep:List Nat) (vf:List Fact) (hm:X.P.follows .mixedOrders=true) (hB:ZN ops.toList eff sch=true) (hoff:TD (AG keep T) ops.toList=true) (hvf:∀f∈vf,f∈F)
  (h:∀N:List Nat,dx {X with N:=N} ⟨ops.toList,eff,vk,st,vf,n,AG keep T⟩ sch T L n F D K):CJs X (.region id ops true) T L n F D K:=λQ hQ a w hr=>(Ao eff sch vk st keep vf (hm:=hm) (hB:=hB) (hoff:=hoff) (hXN:=hr.hN) (hvf:=hvf) h) Q hQ a w hr
def Aaf (X:Fx) (o:Oper) (T:TE) (D:DF) (res:List ResultVar) (k:KS) (T':TE) (L':LE) (n':Nat) (F':List Fact):Prop:=
 match Vs X.tab T' L' res with
 |some us=>match Abl us with
  |some u=>match E7 X.k o.dst u T with
   |some T2=>k T2 L' n' F' D
   |none=>False
  |none=>False
 |none=>False
def Aos (X:Fx) (o:Oper) (T:TE) (D:DF) (res:List ResultVar) (k:KS) (K:KK):KK:=λe T' L' n' F' D'=>match e with
 | .normal=>D'=(λ_=>[])/\Aaf X o T D res k T' L' n' F'
 | .ret=>D'=(λ_=>[])/\Aaf X o T D res k T' L' n' F'
 | .panic ch=>D'=(λ_=>[])/\K (.panic ch) T L' n' F' D
 |_=>False
theorem En {cl:Call} {f:Operand} {g:Nat} {fi ca:List PV} {us:List TV} {fn:Func} {body:Code} {kc:Nat} (hfn:X.P.funcs[g]? =some fn) (hkc:fn.ntmps=kc) (h:∀w1 A1 M1 N1,N1.length=n->sx (Fi X kc w1 A1 M1 N1) body (U8 0 (DM fi us ca)) L n F (λ_=>[]) (Aos X o T D fn.results.toList k K)) (hb:fn.body=some body:=by exact I) (ho:o.op=.call cl:=by exact I) (hc:cl.callee=.value f:=by exact I) (hf:Va T f=some (g,fi,ca):=by exact I) (hus:Rg T cl.args.toList=some us:=by exact I) (hal:Ah X.tab.fn g=some ():=by exact I) (hul:Nat.ble (DM fi us ca).length kc=true:=by exact I):OJs X o T L n F D k K:=by
 intro Q hQ Φ hΦ a w hr;obtain⟨A0,ρ0,hv0⟩:=hr.one;have hXN:=hr.hN;obtain⟨A,M,N,hN,hNN,_,hA,hM,_,_,_,_,hrE⟩:=hr.root (n0:=n) (Ak _) (λ_=>False) (λ_ h=>h.elim) (Grow.refl w) (λ_ _ _=>I) X.r X.nn;have anc:Anc X A w M:=⟨hA,hM,hv0.kp⟩;refine Oper.wpIn_of_run (by simp[Cw,ho]) ?_;rw[Qa hv0.toVw ho hc hf hus hal];refine⟨λhd=>by simp[Fx.fe,Fence.wide] at hd,?_⟩;have ct:Calls X.P g (Gn ρ0 fi us ca).toArray w (λe w'=>match e with
   | .returned v=>∃T2 L2 n2 F2,k T2 L2 n2 F2 D/\Rel X T2 L2 n2 F2 D (a.put o.dst v) w'
   | .panicked ch=>∃L2 n2 F2,K (.panic ch) T L2 n2 F2 D/\Rel X T L2 n2 F2 D a w'
   | .outgrown=>False):=by
  refine(Fz (n:=8)).1 (T4 hfn hb trivial ?_ I);rw[hkc];have hbeg:Rel (Fi X kc w A M N) (U8 0 (DM fi us ca)) L n F (λ_=>[]) {tmps:=(Gn ρ0 fi us ca).toArray++Array.replicate (kc- (Gn ρ0 fi us ca).toArray.size) undef,defers:=[]} w:=by
   obtain⟨hkb,ρ1,A2,h0⟩:=hrE;refine⟨hkb,ρ1,A2,λρ hρ=>?_⟩;have h1:=h0 ρ hρ;have hargs:Gn ρ fi us ca=Gn ρ0 fi us ca:=by
    have e1:=Qa h1.toVw ho hc hf hus hal;have e2:=Qa hv0.toVw ho hc hf hus hal;have e3:=e1.symm.trans e2;injection e3 with e3
    injection e3 with _ e3
    exact List.toArray_inj e3
   have hlen:(Gn ρ0 fi us ca).length=(DM fi us ca).length:=by rw[<-IB (ρ:=ρ0)];simp
   have hle:(DM fi us ca).length<=kc:=by rwa[G6] at hul
   refine⟨⟨λt x hx=>?_,h1.lo,h1.a3⟩,by show Array.size _=kc;simp;omega,I,h1.kp,h1.nw,h1.ds,h1.a1,h1.a2,h1.mb⟩;obtain⟨j,rfl,hj⟩:=Rh hx;have h4:(Gn ρ0 fi us ca)[j]? =some (x.den ρ):=by rw[<-hargs,<-IB];simp[hj]
   have hjl:=(Aa.1 h4).1;rw[Bl,Bp,Iq (by simpa using hjl)];simp[h4]
  refine Ht (h w A M N hN) _ ?_ _ _ hbeg;intro e T' L' n' F' D' hK a' w' hr';have ret:D'=(λ_=>[])/\Aaf X o T D fn.results.toList k T' L' n' F'->a'.defers=[]/\∃v,(results fn a'.tmps).run X.P w'=.ok v w'/\∃T2 L2 n2 F2,k T2 L2 n2 F2 D/\Rel X T2 L2 n2 F2 D (a.put o.dst v) w':=by
   rintro ⟨hD,hR⟩;unfold Aaf at hR;split at hR
   ·rename_i us' hus';split at hR
    ·rename_i u hu;split at hR
     ·rename_i T2 hp;obtain⟨A3,ρ3,h3⟩:=hr'.one;have run:=Mj h3.toVw (fn:=fn) hus';refine⟨by rw[h3.df,hD],_,run,T2,L',n',F',hR,hrE.inl hN anc hNN hXN hr' (λA4 ρ4 h4=>?_) hp⟩;have run4:=Mj h4.toVw (fn:=fn) hus';have e:=run.symm.trans run4;injection e with e
      rw[e,UT hu]
     ·exact hR.elim
    ·exact hR.elim
   ·exact hR.elim
  cases e with
  |normal=>exact ret hK
  |ret=>exact ret hK
  |panic ch=>
   obtain⟨hD,hR⟩:=hK;obtain⟨A3,ρ3,h3⟩:=hr'.one;have:=hrE.inl hN anc hNN hXN (u:=.o (.v undef)) (v:=undef) (d:=none) (T2:=T) hr' (λ_ _ _=>I) I;exact⟨by rw[h3.df,hD],L',n',F',hR,this⟩
  |exit id=>exact hK.elim
  |goto l=>exact hK.elim
  |outgrown=>exact hK.elim
 refine Mk (show CallsIn X.fe (X.nn- 1) X.P g (Gn ρ0 fi us ca).toArray w _ from⟨trivial,((Fz (n:=X.nn- 1)).2 ct).2⟩) ?_;rintro e w' he;cases e with
 |returned v=>
  obtain⟨T2,L2,n2,F2,hk,hr2⟩:=he;exact hΦ _ _ _ _ _ hk _ w' hr2
 |panicked ch=>
  obtain⟨L2,n2,F2,hk,hr2⟩:=he;exact hQ _ _ _ _ _ _ hk a w' hr2
 |outgrown=>exact he.elim
end
def tb:Tab where
 kd:=[(1,none),(2,none),(3,none),(4,none),(5,none),(6,none),(7,some 4),(8,some 4),(9,none),(10,none),(11,none),(12,none),(13,some 2),(14,some 2),(15,none),(16,none),(17,none),(18,some 1),(19,some 1),(20,none),(21,none),(22,some 3),(23,some 3),(24,some 10),(25,some 10),(26,none),(27,none),(28,none),(29,none),(30,some 3),(31,some 3),(32,some 7),(33,some 7),(34,some 2),(35,some 2),(36,none),(37,none),(38,none),(39,some 15),(40,some 15),(41,some 25),(42,some 25),(43,none),(44,none),(45,none),(47,none),(49,none),(50,none),(51,none),(52,none),(53,none),(55,none),(57,none),(58,none),(59,none),(60,none),(61,none),(62,none),(64,none),(65,none),(66,some 3),(67,some 3),(68,none),(69,some 2),(70,some 2),(71,some 2),(72,some 2),(73,some 4),(74,some 4),(75,none),(76,none),(77,some 26),(78,some 26),(79,some 27),(80,some 27),(81,none),(83,none),(84,some 4),(85,some 4),(86,none),(87,some 8),(88,some 8),(89,some 2),(90,some 2),(91,none),(92,none),(93,none),(94,none),(95,none),(96,none),(98,none),(99,none),(101,none),(102,none),(103,some 3),(104,some 3),(106,none),(107,none),(108,none),(109,none),(111,none),(112,none),(113,none),(114,none),(115,some 26),(116,some 26),(117,some 26),(118,some 26),(119,none),(120,none),(121,none),(122,none),(123,none),(124,none),(125,none),(126,none),(127,none),(128,none),(129,none),(130,none),(131,none),(133,none),(134,none),(135,none),(136,none),(137,some 2),(138,some 2),(140,none),(141,none),(142,none),(143,none),(144,none),(145,none),(146,none),(147,none),(149,none),(150,none),(152,none),(153,some 3),(154,some 3),(156,none),(157,none),(159,none),(160,none),(161,none),(162,none),(163,some 4),(164,none),(165,none),(166,some 5),(167,some 5),(168,none),(169,some 3),(170,some 3),(171,none),(172,none),(173,none),(175,none),(177,none),(178,none),(180,none),(181,none),(183,none),(184,none),(185,none),(186,none),(187,none),(188,none),(189,none),(190,none),(191,none),(192,none),(193,none),(194,none),(195,none),(196,some 8),(197,some 8),(198,none),(199,none),(200,none),(201,none),(202,none),(203,none),(204,none),(206,none),(208,none),(209,none),(210,none),(211,none),(212,some 10),(213,some 10),(214,none),(215,none),(216,some 1),(217,some 1),(218,none),(219,some 2),(220,some 2),(221,none),(222,none),(223,none),(224,none),(226,none),(228,none),(229,none),(230,none),(231,none),(232,none),(233,none),(234,none),(235,none),(236,none),(237,none),(239,none),(241,none),(242,none),(243,none),(245,none),(247,none),(248,none),(249,none),(251,none),(253,none),(254,none),(255,none),(257,none),(258,none),(260,none),(262,none),(263,none),(264,none),(265,none),(266,none),(267,none),(268,some 3),(269,some 3),(270,none),(271,none),(272,none),(273,none),(274,none),(275,none),(276,none),(277,none),(278,none),(280,none),(281,some 4),(282,some 4),(284,none),(286,none),(287,some 5),(288,some 5),(289,none),(290,none),(291,none),(292,none),(293,none),(294,none),(295,some 2),(296,some 2),(297,some 3),(298,some 3),(299,some 2),(300,none),(301,none),(302,none),(303,none),(304,none),(305,none),(306,none),(307,none),(308,none),(309,none),(310,none),(311,none),(312,none),(313,none),(314,none),(315,none),(316,none),(318,none),(320,some 1),(321,some 1),(322,some 2),(323,some 2),(324,none),(325,none),(326,none),(327,none),(328,none),(329,none),(330,none),(331,none),(332,none),(333,none),(334,some 6),(335,some 6),(336,none),(337,none),(338,none),(339,some 3),(340,none),(341,none),(342,none),(343,none),(345,none),(346,none),(347,none),(348,none),(349,none),(350,none),(351,none),(352,none),(353,none),(354,some 3),(355,some 3),(356,some 9),(357,none),(358,some 6),(359,some 6),(360,none),(361,some 6),(362,none),(363,none),(364,some 3),(365,none),(366,none),(367,none),(368,none),(369,none),(370,none),(371,none),(372,none),(373,none),(374,none),(375,none),(376,none),(377,none),(378,none),(379,none),(380,none),(381,some 3),(382,some 3),(383,some 9),(384,none),(385,none),(386,none),(387,none),(388,none),(389,none),(390,none),(391,none),(392,none),(393,none),(394,none),(395,none),(396,none),(397,none),(398,some 3),(399,some 3),(400,some 15),(401,none),(402,none),(403,none),(404,none),(405,none),(406,none),(407,none),(408,some 2),(409,none),(410,none),(411,none),(412,none),(413,none),(414,none),(415,none),(416,none),(417,none),(418,none),(419,none),(420,none),(421,none),(422,none),(424,none),(425,none),(426,none),(427,none),(428,none),(429,none),(430,none),(431,none),(432,none),(433,none),(434,none),(435,none),(436,none),(437,none),(438,none),(439,none),(440,none),(441,none),(443,none),(444,none),(445,some 4),(446,some 4),(447,some 0),(448,some 0),(449,some 0),(450,none),(451,none),(452,none),(453,none),(454,none),(455,none),(456,some 11),(457,some 11),(458,none),(459,none)]
 fd:=[(7,[(0,2),(1,3),(2,4),(3,6)]),(8,[(0,2),(1,3),(2,4),(3,6)]),(13,[(0,9),(1,12)]),(14,[(0,9),(1,12)]),(18,[(0,17)]),(19,[(0,17)]),(22,[(0,3),(1,3),(2,3)]),(23,[(0,3),(1,3),(2,3)]),(24,[(0,23),(3,3),(4,3),(5,3),(6,2),(7,2),(8,2),(9,4)]),(25,[(0,23),(3,3),(4,3),(5,3),(6,2),(7,2),(8,2),(9,4)]),(30,[(0,2),(1,2),(2,29)]),(31,[(0,2),(1,2),(2,29)]),(32,[(0,2),(1,26),(2,27),(3,28),(4,31)]),(33,[(0,2),(1,26),(2,27),(3,28),(4,31)]),(34,[(0,3),(1,2)]),(35,[(0,3),(1,2)]),(39,[(0,4),(1,4),(2,33),(9,2),(10,35),(12,36),(13,37),(14,38)]),(40,[(0,4),(1,4),(2,33),(9,2),(10,35),(12,36),(13,37),(14,38)]),(41,[(0,25),(10,40)]),(42,[(0,25),(10,40)]),(66,[(0,65),(1,3),(2,2)]),(67,[(0,65),(1,3),(2,2)]),(69,[(0,2),(1,2)]),(70,[(0,2),(1,2)]),(71,[(0,2),(1,3)]),(72,[(0,2),(1,3)]),(73,[(0,2),(1,4),(2,65),(3,3)]),(74,[(0,2),(1,4),(2,65),(3,3)]),(77,[(0,68),(1,70),(3,72),(5,3),(6,3),(7,74),(11,2),(12,2),(13,65),(14,31),(17,33),(24,75),(25,76)]),(78,[(0,68),(1,70),(3,72),(5,3),(6,3),(7,74),(11,2),(12,2),(13,65),(14,31),(17,33),(24,75),(25,76)]),(79,[(0,3),(1,78)]),(80,[(0,3),(1,78)]),(84,[(0,3),(1,3),(2,3),(3,2)]),(85,[(0,3),(1,3),(2,3),(3,2)]),(87,[(0,2),(1,86),(2,65),(3,3),(4,2),(5,31)]),(88,[(0,2),(1,86),(2,65),(3,3),(4,2),(5,31)]),(89,[(0,4),(1,2)]),(90,[(0,4),(1,2)]),(103,[(0,2),(1,2),(2,2)]),(104,[(0,2),(1,2),(2,2)]),(115,[(0,40),(15,25),(25,53)]),(116,[(0,40),(15,25),(25,53)]),(117,[(0,25),(10,40),(25,53)]),(118,[(0,25),(10,40),(25,53)]),(137,[(0,135),(1,136)]),(138,[(0,135),(1,136)]),(153,[(0,31)]),(154,[(0,31)]),(166,[(0,3),(1,2),(2,65),(3,3),(4,3)]),(167,[(0,3),(1,2),(2,65),(3,3),(4,3)]),(169,[(0,3),(1,2),(2,65)]),(170,[(0,3),(1,2),(2,65)]),(196,[(0,88)]),(197,[(0,88)]),(212,[(0,33),(7,23)]),(213,[(0,33),(7,23)]),(216,[(0,2)]),(217,[(0,2)]),(219,[(0,217),(1,218)]),(220,[(0,217),(1,218)]),(268,[(0,3),(1,3),(2,2)]),(269,[(0,3),(1,3),(2,2)]),(281,[(0,74)]),(282,[(0,74)]),(287,[(0,4),(1,35),(3,3),(4,2)]),(288,[(0,4),(1,35),(3,3),(4,2)]),(295,[(0,291),(1,291)]),(296,[(0,291),(1,291)]),(297,[(0,23)]),(298,[(0,23)]),(320,[(0,28)]),(321,[(0,28)]),(322,[(0,321),(1,4)]),(323,[(0,321),(1,4)]),(334,[(0,167),(5,3)]),(335,[(0,167),(5,3)]),(339,[(0,3),(1,2),(2,65)]),(354,[(0,2),(1,2),(2,2)]),(355,[(0,2),(1,2),(2,2)]),(358,[(0,288),(5,3)]),(359,[(0,288),(5,3)]),(381,[(0,2),(1,2),(2,2)]),(382,[(0,2),(1,2),(2,2)]),(398,[(0,2),(1,2),(2,2)]),(399,[(0,2),(1,2),(2,2)]),(445,[(0,17),(1,17),(2,17),(3,9)]),(446,[(0,17),(1,17),(2,17),(3,9)]),(456,[(0,12),(1,12),(2,224),(3,450),(4,5),(5,5),(6,451),(7,452),(8,453),(9,454),(10,455)]),(457,[(0,12),(1,12),(2,224),(3,450),(4,5),(5,5),(6,451),(7,452),(8,453),(9,454),(10,455)])]
 ze:=[(1,[9]),(2,[1]),(3,[1]),(4,[0]),(5,[3]),(6,[3]),(7,[1,1,0,3]),(8,[1,1,0,3]),(9,[5]),(10,[5]),(11,[5]),(12,[2]),(13,[5,2]),(14,[5,2]),(15,[6]),(16,[6]),(17,[6]),(18,[6]),(19,[6]),(20,[10]),(21,[4]),(22,[1,1,1]),(23,[1,1,1]),(24,[1,1,1,1,1,1,1,1,1,0]),(25,[1,1,1,1,1,1,1,1,1,0]),(26,[7]),(27,[7]),(28,[7]),(29,[2]),(30,[1,1,2]),(31,[1,1,2]),(32,[1,7,7,7,1,1,2]),(33,[1,7,7,7,1,1,2]),(34,[1,1]),(35,[1,1]),(36,[7]),(37,[7]),(38,[7]),(39,[0,0,1,7,7,7,1,1,2,1,1,1,7,7,7]),(40,[0,0,1,7,7,7,1,1,2,1,1,1,7,7,7]),(41,[1,1,1,1,1,1,1,1,1,0,0,0,1,7,7,7,1,1,2,1,1,1,7,7,7]),(42,[1,1,1,1,1,1,1,1,1,0,0,0,1,7,7,7,1,1,2,1,1,1,7,7,7]),(43,[9]),(44,[9]),(45,[1]),(47,[9]),(49,[9]),(50,[9]),(51,[9]),(52,[9]),(53,[7]),(55,[9]),(57,[9]),(58,[9]),(59,[9]),(60,[9]),(61,[9]),(62,[9]),(64,[9]),(65,[1]),(66,[1,1,1]),(67,[1,1,1]),(68,[1]),(69,[1,1]),(70,[1,1]),(71,[1,1]),(72,[1,1]),(73,[1,0,1,1]),(74,[1,0,1,1]),(75,[7]),(76,[7]),(77,[1,1,1,1,1,1,1,1,0,1,1,1,1,1,1,1,2,1,7,7,7,1,1,2,7,7]),(78,[1,1,1,1,1,1,1,1,0,1,1,1,1,1,1,1,2,1,7,7,7,1,1,2,7,7]),(79,[1,1,1,1,1,1,1,1,1,0,1,1,1,1,1,1,1,2,1,7,7,7,1,1,2,7,7]),(80,[1,1,1,1,1,1,1,1,1,0,1,1,1,1,1,1,1,2,1,7,7,7,1,1,2,7,7]),(81,[9]),(83,[9]),(84,[1,1,1,1]),(85,[1,1,1,1]),(86,[1]),(87,[1,1,1,1,1,1,1,2]),(88,[1,1,1,1,1,1,1,2]),(89,[0,1]),(90,[0,1]),(91,[9]),(92,[9]),(93,[6]),(94,[9]),(95,[9]),(96,[9]),(98,[9]),(99,[9]),(101,[9]),(102,[9]),(103,[1,1,1]),(104,[1,1,1]),(106,[9]),(107,[9]),(108,[9]),(109,[9]),(111,[9]),(112,[9]),(113,[6]),(114,[9]),(115,[0,0,1,7,7,7,1,1,2,1,1,1,7,7,7,1,1,1,1,1,1,1,1,1,0,7]),(116,[0,0,1,7,7,7,1,1,2,1,1,1,7,7,7,1,1,1,1,1,1,1,1,1,0,7]),(117,[1,1,1,1,1,1,1,1,1,0,0,0,1,7,7,7,1,1,2,1,1,1,7,7,7,7]),(118,[1,1,1,1,1,1,1,1,1,0,0,0,1,7,7,7,1,1,2,1,1,1,7,7,7,7]),(119,[9]),(120,[9]),(121,[9]),(122,[9]),(123,[9]),(124,[9]),(125,[9]),(126,[9]),(127,[9]),(128,[9]),(129,[9]),(130,[9]),(131,[9]),(133,[9]),(134,[9]),(135,[9]),(136,[9]),(137,[9,9]),(138,[9,9]),(140,[8]),(141,[9]),(142,[9]),(143,[9]),(144,[9]),(145,[9]),(146,[9]),(147,[9]),(149,[9]),(150,[6]),(152,[9]),(153,[1,1,2]),(154,[1,1,2]),(156,[9]),(157,[2]),(159,[9]),(160,[9]),(161,[9]),(162,[9]),(163,[9,9,9,9]),(164,[9]),(165,[9]),(166,[1,1,1,1,1]),(167,[1,1,1,1,1]),(168,[9]),(169,[1,1,1]),(170,[1,1,1]),(171,[9]),(172,[9]),(173,[9]),(175,[9]),(177,[9]),(178,[9]),(180,[9]),(181,[9]),(183,[9]),(184,[9]),(185,[9]),(186,[9]),(187,[9]),(188,[9]),(189,[9]),(190,[9]),(191,[9]),(192,[9]),(193,[9]),(194,[9]),(195,[9]),(196,[1,1,1,1,1,1,1,2]),(197,[1,1,1,1,1,1,1,2]),(198,[9]),(199,[9]),(200,[9]),(201,[9]),(202,[9]),(203,[9]),(204,[9]),(206,[9]),(208,[9]),(209,[6]),(210,[9]),(211,[9]),(212,[1,7,7,7,1,1,2,1,1,1]),(213,[1,7,7,7,1,1,2,1,1,1]),(214,[9]),(215,[9]),(216,[1]),(217,[1]),(218,[8]),(219,[1,8]),(220,[1,8]),(221,[9]),(222,[9]),(223,[9]),(226,[9]),(228,[9]),(229,[9]),(230,[9]),(231,[9]),(232,[9]),(233,[9]),(234,[9]),(235,[9]),(236,[9]),(237,[9]),(239,[9]),(241,[9]),(242,[9]),(243,[9]),(245,[9]),(247,[9]),(248,[7]),(249,[9]),(251,[9]),(253,[9]),(254,[9]),(255,[9]),(257,[9]),(258,[9]),(260,[9]),(262,[9]),(263,[9]),(264,[9]),(265,[9]),(266,[9]),(267,[9]),(268,[1,1,1]),(269,[1,1,1]),(270,[7]),(271,[9]),(272,[9]),(273,[9]),(274,[9]),(275,[7]),(276,[9]),(277,[9]),(278,[7]),(280,[9]),(281,[1,0,1,1]),(282,[1,0,1,1]),(284,[9]),(286,[9]),(287,[0,1,1,1,1]),(288,[0,1,1,1,1]),(289,[9]),(290,[6]),(291,[1]),(292,[9]),(293,[9]),(294,[9]),(295,[1,1]),(296,[1,1]),(297,[1,1,1]),(298,[1,1,1]),(299,[1,1]),(300,[9]),(301,[9]),(302,[9]),(303,[9]),(304,[7]),(305,[9]),(306,[9]),(307,[9]),(308,[9]),(309,[9]),(310,[9]),(311,[9]),(312,[9]),(313,[9]),(314,[9]),(315,[9]),(316,[9]),(318,[9]),(320,[7]),(321,[7]),(322,[7,0]),(323,[7,0]),(324,[9]),(325,[9]),(326,[9]),(327,[9]),(328,[9]),(329,[9]),(330,[9]),(331,[9]),(332,[9]),(333,[9]),(334,[1,1,1,1,1,1]),(335,[1,1,1,1,1,1]),(336,[9]),(337,[9]),(338,[9]),(339,[1,1,1]),(340,[9]),(341,[9]),(342,[9]),(343,[9]),(345,[9]),(346,[9]),(347,[9]),(348,[9]),(349,[9]),(350,[9]),(351,[9]),(352,[9]),(353,[9]),(354,[1,1,1]),(355,[1,1,1]),(356,[1,1,1,1,1,1,1,1,1]),(357,[9]),(358,[0,1,1,1,1,1]),(359,[0,1,1,1,1,1]),(360,[9]),(361,[2,2,2,2,2,2]),(362,[9]),(363,[9]),(364,[9,9,9]),(365,[9]),(366,[9]),(367,[9]),(368,[9]),(369,[9]),(370,[9]),(371,[9]),(372,[9]),(373,[9]),(374,[9]),(375,[7]),(376,[9]),(377,[9]),(378,[1]),(379,[9]),(380,[8]),(381,[1,1,1]),(382,[1,1,1]),(383,[1,1,1,1,1,1,1,1,1]),(384,[9]),(385,[9]),(386,[9]),(387,[9]),(388,[7]),(389,[9]),(390,[9]),(391,[9]),(392,[9]),(393,[9]),(394,[9]),(395,[9]),(396,[9]),(397,[9]),(398,[1,1,1]),(399,[1,1,1]),(400,[1,1,1,1,1,1,1,1,1,1,1,1,1,1,1]),(401,[9]),(402,[9]),(403,[7]),(404,[9]),(405,[9]),(406,[9]),(407,[9]),(408,[0,0]),(409,[9]),(410,[9]),(411,[9]),(412,[9]),(413,[9]),(414,[9]),(415,[9]),(416,[9]),(417,[9]),(418,[9]),(419,[9]),(420,[9]),(421,[9]),(422,[1]),(424,[9]),(425,[9]),(426,[9]),(427,[9]),(428,[9]),(429,[9]),(430,[9]),(431,[9]),(432,[9]),(433,[9]),(434,[9]),(435,[2]),(436,[9]),(437,[9]),(438,[9]),(439,[6]),(440,[9]),(441,[6]),(443,[9]),(444,[9]),(445,[6,6,6,5]),(446,[6,6,6,5]),(447,[]),(448,[]),(449,[]),(450,[3]),(451,[3]),(452,[9]),(453,[6]),(454,[4]),(455,[4]),(458,[6]),(459,[6])]
 el:=[(26,(2,1)),(27,(167,5)),(28,(170,3)),(36,(74,4)),(37,(88,8)),(38,(104,3)),(53,(80,27)),(75,(90,2)),(76,(269,3)),(248,(65,1)),(270,(4,1)),(275,(44,1)),(278,(3,1)),(304,(36,1)),(375,(335,6)),(388,(35,2)),(403,(53,1))]
 ar:=[(163,(4,44,1)),(299,(2,2,1)),(356,(3,355,3)),(361,(6,157,1)),(364,(3,44,1)),(383,(3,382,3)),(400,(5,399,3)),(408,(2,4,1)),(447,(0,16,1))]
 fn:=[(3,()),(4,()),(5,()),(6,()),(7,()),(8,()),(9,()),(10,()),(11,()),(12,()),(13,()),(14,()),(15,()),(16,()),(17,()),(18,()),(19,()),(20,()),(21,()),(22,()),(23,()),(24,()),(25,()),(26,()),(27,()),(28,()),(29,()),(30,()),(31,()),(32,()),(33,()),(34,()),(35,()),(36,()),(37,()),(38,()),(39,()),(40,()),(41,()),(42,()),(43,()),(44,()),(45,()),(46,()),(47,()),(48,()),(49,()),(50,()),(51,()),(52,()),(53,()),(54,()),(55,()),(56,()),(57,()),(58,()),(59,()),(60,()),(61,()),(62,()),(63,()),(64,()),(65,()),(66,()),(67,()),(68,()),(69,()),(70,()),(71,()),(72,()),(73,()),(74,()),(75,()),(76,()),(77,()),(78,()),(79,()),(80,()),(81,()),(82,()),(83,()),(84,()),(85,()),(86,()),(87,()),(88,()),(89,()),(90,()),(91,()),(92,()),(93,()),(94,()),(95,()),(96,()),(97,()),(98,()),(99,()),(100,()),(101,()),(102,()),(103,()),(104,()),(105,()),(106,()),(107,()),(108,()),(109,()),(110,()),(111,()),(112,()),(113,()),(114,()),(115,()),(116,()),(117,()),(118,()),(119,()),(120,()),(121,()),(122,()),(123,()),(124,()),(125,()),(126,()),(127,()),(128,()),(129,()),(130,()),(131,()),(132,()),(133,()),(134,()),(135,()),(136,()),(137,()),(138,()),(139,()),(140,()),(141,()),(142,()),(143,()),(144,()),(145,()),(146,()),(147,()),(148,()),(149,()),(150,()),(151,()),(152,()),(153,()),(154,()),(155,()),(156,()),(157,()),(158,()),(159,()),(160,()),(161,()),(162,()),(163,()),(164,()),(165,()),(166,()),(167,()),(168,()),(169,()),(170,()),(171,()),(172,()),(173,()),(174,()),(175,()),(176,()),(177,()),(178,()),(179,()),(180,()),(181,()),(182,()),(183,()),(184,()),(185,()),(186,()),(187,()),(188,()),(189,()),(190,()),(191,()),(192,()),(193,()),(194,()),(195,()),(196,()),(197,()),(198,()),(199,()),(200,()),(201,()),(202,()),(203,()),(204,()),(205,()),(206,()),(207,()),(208,()),(209,()),(210,()),(211,()),(212,()),(213,()),(214,()),(215,()),(216,()),(217,()),(218,()),(219,()),(220,()),(221,()),(222,()),(223,()),(224,()),(225,()),(226,()),(227,()),(228,()),(229,()),(230,()),(231,()),(232,()),(233,()),(234,()),(235,()),(236,()),(237,()),(238,()),(239,()),(240,()),(241,()),(242,()),(243,()),(244,()),(245,()),(246,()),(247,()),(248,()),(249,()),(250,()),(251,()),(252,()),(253,()),(254,()),(255,()),(256,()),(257,()),(258,()),(259,()),(260,()),(261,()),(262,()),(263,()),(264,()),(265,()),(266,()),(267,()),(268,()),(269,()),(270,()),(271,()),(272,()),(273,()),(274,()),(275,()),(276,()),(277,()),(278,()),(279,()),(280,()),(281,()),(282,()),(283,()),(284,()),(285,()),(286,()),(287,()),(288,()),(289,()),(290,()),(291,()),(292,()),(293,()),(294,()),(295,()),(296,()),(297,()),(298,()),(299,()),(300,()),(301,()),(302,()),(304,()),(305,()),(306,()),(307,()),(308,()),(309,()),(310,()),(311,()),(312,()),(313,()),(314,()),(315,()),(316,()),(317,()),(318,()),(319,()),(320,()),(321,()),(322,()),(323,()),(324,()),(325,()),(326,()),(327,()),(328,()),(329,()),(330,()),(331,()),(332,()),(333,()),(334,()),(335,()),(336,()),(337,()),(338,()),(339,()),(340,()),(341,()),(342,()),(343,()),(344,()),(345,()),(346,()),(347,()),(348,()),(349,()),(350,()),(351,()),(352,()),(353,()),(354,()),(355,()),(356,()),(357,()),(358,()),(359,()),(360,())]
 by_:=[(1,8),(2,8),(3,8),(4,1),(5,1),(6,1),(7,24),(8,24),(9,16),(10,16),(11,16),(12,8),(13,24),(14,24),(15,8),(16,8),(17,8),(18,8),(19,8),(20,16),(21,4),(22,24),(23,24),(24,80),(25,80),(26,24),(27,24),(28,24),(29,8),(30,24),(31,24),(32,104),(33,104),(34,16),(35,16),(36,24),(37,24),(38,24),(39,208),(40,208),(41,288),(42,288),(43,8),(44,8),(45,8),(47,8),(49,8),(50,8),(51,8),(52,8),(53,24),(55,8),(57,8),(58,8),(59,8),(60,8),(61,8),(62,8),(64,8),(65,8),(66,24),(67,24),(68,8),(69,16),(70,16),(71,16),(72,16),(73,32),(74,32),(75,24),(76,24),(77,288),(78,288),(79,296),(80,296),(81,8),(83,8),(84,32),(85,32),(86,8),(87,64),(88,64),(89,16),(90,16),(91,8),(92,8),(93,8),(94,8),(95,8),(96,8),(98,8),(99,8),(101,8),(102,8),(103,24),(104,24),(106,8),(107,8),(108,8),(109,8),(111,8),(112,8),(113,8),(114,8),(115,312),(116,312),(117,312),(118,312),(119,8),(120,8),(121,8),(122,8),(123,8),(124,8),(125,8),(126,8),(127,8),(128,8),(129,8),(130,8),(131,8),(133,8),(134,8),(135,8),(136,8),(137,16),(138,16),(140,8),(141,8),(142,8),(143,8),(144,8),(145,8),(146,8),(147,8),(149,8),(150,8),(152,8),(153,24),(154,24),(156,8),(157,8),(159,8),(160,8),(161,8),(162,8),(163,32),(164,8),(165,8),(166,40),(167,40),(168,8),(169,24),(170,24),(171,8),(172,8),(173,8),(175,8),(177,8),(178,8),(180,8),(181,8),(183,8),(184,8),(185,8),(186,8),(187,8),(188,8),(189,8),(190,8),(191,8),(192,8),(193,8),(194,8),(195,8),(196,64),(197,64),(198,8),(199,8),(200,8),(201,8),(202,8),(203,8),(204,8),(206,8),(208,8),(209,8),(210,8),(211,8),(212,128),(213,128),(214,8),(215,8),(216,8),(217,8),(218,8),(219,16),(220,16),(221,8),(222,8),(223,8),(224,4),(226,8),(228,8),(229,8),(230,8),(231,8),(232,8),(233,8),(234,8),(235,8),(236,8),(237,8),(239,8),(241,8),(242,8),(243,8),(245,8),(247,8),(248,24),(249,8),(251,8),(253,8),(254,8),(255,8),(257,8),(258,8),(260,8),(262,8),(263,8),(264,8),(265,8),(266,8),(267,8),(268,24),(269,24),(270,24),(271,8),(272,8),(273,8),(274,8),(275,24),(276,8),(277,8),(278,24),(280,8),(281,32),(282,32),(284,8),(286,8),(287,40),(288,40),(289,8),(290,8),(291,8),(292,8),(293,8),(294,8),(295,16),(296,16),(297,24),(298,24),(299,16),(300,8),(301,8),(302,8),(303,8),(304,24),(305,8),(306,8),(307,8),(308,8),(309,8),(310,8),(311,8),(312,8),(313,8),(314,8),(315,8),(316,8),(318,8),(320,24),(321,24),(322,32),(323,32),(324,8),(325,8),(326,8),(327,8),(328,8),(329,8),(330,8),(331,8),(332,8),(333,8),(334,48),(335,48),(336,8),(337,8),(338,8),(339,24),(340,8),(341,8),(342,8),(343,8),(345,8),(346,8),(347,8),(348,8),(349,8),(350,8),(351,8),(352,8),(353,8),(354,24),(355,24),(356,72),(357,8),(358,48),(359,48),(360,8),(361,48),(362,8),(363,8),(364,24),(365,8),(366,8),(367,8),(368,8),(369,8),(370,8),(371,8),(372,8),(373,8),(374,8),(375,24),(376,8),(377,8),(378,8),(379,8),(380,8),(381,24),(382,24),(383,72),(384,8),(385,8),(386,8),(387,8),(388,24),(389,8),(390,8),(391,8),(392,8),(393,8),(394,8),(395,8),(396,8),(397,8),(398,24),(399,24),(400,120),(401,8),(402,8),(403,24),(404,8),(405,8),(406,8),(407,8),(408,2),(409,8),(410,8),(411,8),(412,8),(413,8),(414,8),(415,8),(416,8),(417,8),(418,8),(419,8),(420,8),(421,8),(422,8),(424,8),(425,8),(426,8),(427,8),(428,8),(429,8),(430,8),(431,8),(432,8),(433,8),(434,8),(435,8),(436,8),(437,8),(438,8),(439,8),(440,8),(441,8),(443,8),(444,8),(445,40),(446,40),(447,0),(448,0),(449,0),(450,1),(451,1),(452,8),(453,8),(454,4),(455,4),(456,48),(457,48),(458,8),(459,8)]
theorem Aoi:tb.kd.all (λp=>tyK prog p.1 == some p.2)=true:=tqK
theorem Aoj:tb.fd.all (λp=>tyF prog p.1 == some p.2)=true:=tqK
theorem Aok:tb.ze.all (λp=>tyZ prog p.1 p.2)=true:=tqK
theorem Aol:tb.el.all (λp=>tyE prog p.1 == some p.2)=true:=tqK
theorem Aom:tb.ar.all (λp=>tyA prog p.1 == some p.2)=true:=tqK
theorem Aon:tb.fn.all (λp=>tyB prog p.1)=true:=tqK
theorem Aoo:tb.by_.all (λp=>tyY prog p.1 == some p.2)=true:=tqK
theorem R8:tb.Ok prog:=Tab.ok (by unfold Tab.chk;rw[Aoi,Aoj,Aok,Aol,Aom,Aon,Aoo];rfl)
def tqm:=@Ans prog tb R8
def tqn:=@Al1 prog tb R8
variable {r:Nm}
theorem PV.ren_at (x:PV):x.den (λj=>ρ (r j))=(x.ren r).den ρ:=by cases x<;>rfl
theorem SV.ren_at (x:SV):x.den (λj=>ρ (r j))=(x.ren r).den ρ:=by
 cases x with
 |f fn fi ca=>
  have h:∀l:List PV,l.map (PV.den λj=>ρ (r j))=(l.map (PV.ren r)).map (PV.den ρ):=λl=>by
   rw[Fp];exact Gv λp _=>PV.ren_at p
  simp only[SV.den,SV.ren,h]
 |_=>rfl
theorem MX (xs:List SV):C4 (λj=>ρ (r j)) xs=C4 ρ (xs.map (SV.ren r)):=by
 simp only[C4,Fp];exact Gv λp _=>SV.ren_at p
theorem TV.ren_at (x:TV):x.den (λj=>ρ (r j))=(x.ren r).den ρ:=by
 cases x with
 |o x=>exact SV.ren_at x
 |t xs=>simp only[TV.den,TV.ren,MX]
 |g xs=>simp only[TV.den,TV.ren,MX]
inductive XB where
 |c (cs:List SV) (t:TypeId)
 |r (cs:List Value) (t:TypeId)
def XB.den (ρ:Nm):XB->List Value
 | .c cs _=>C4 ρ cs
 | .r cs _=>cs
def XB.ty:XB->TypeId
 | .c _ t=>t
 | .r _ t=>t
def XB.lt (m:Nat):XB->Bool
 | .c cs _=>cs.all (SV.lt m)
 | .r _ _=>true
def XB.lc (r:Nm):XB->LC
 | .c cs t=>.c (cs.map (SV.ren r)) t
 | .r cs t=>D9 cs t
def XB.lc0:XB->LC
 | .c cs t=>.c cs t
 | .r cs t=>D9 cs t
variable {k:Nat} {w:World}
theorem XB.lc_holds (x:XB):(x.lc r).holds ρ k w↔w.heap[ρ k]? =some (.cells (x.den λj=>ρ (r j)).toArray x.ty (0,0)):=by
 cases x with
 |c cs t=>simp only[XB.lc,LC.holds,XB.den,XB.ty,MX]
 |r cs t=>exact Iff.rfl
theorem XB.lc0_holds (x:XB):x.lc0.holds ρ k w↔w.heap[ρ k]? =some (.cells (x.den ρ).toArray x.ty (0,0)):=by
 cases x with
 |c cs t=>exact Iff.rfl
 |r cs t=>exact Iff.rfl
theorem XB.lc_blk (x:XB):(x.lc r).blk ρ k=some (ρ k):=by cases x<;>rfl
theorem XB.lc0_blk (x:XB):x.lc0.blk ρ k=some (ρ k):=by cases x<;>rfl
abbrev Ku:=TV ⊕ List PanicEntry->List XB->List Fact->Prop
def ltX (m:Nat):TV ⊕ List PanicEntry->Bool
 | .inl u=>u.lt m
 | .inr _=>true
def ZR (ρ:Nm):TV ⊕ List PanicEntry->Ending
 | .inl u=>.returned (u.den ρ)
 | .inr ch=>.panicked ch
structure PostX (ρ:Nm) (m:Nat) (w:World) (A:Nat->Prop) (r:TV ⊕ List PanicEntry) (Ls:List XB) (F1:List Fact) (ρ':Nm) (A':Nat->Prop) (e:Ending) (w':World):Prop where
 ml:m<=Ls.length
 old:∀j,j<m->ρ' j=ρ j
 kp:Kp ((List.range m).map ρ) w w'
 new:∀j,m<=j->j<Ls.length->w.heap.size<=ρ' j
 inj:∀i j,i<Ls.length->j<Ls.length->ρ' i=ρ' j->i=j
 bl:∀j x,Ls[j]? =some x->w'.heap[ρ' j]? =some (.cells (x.den ρ').toArray x.ty (0,0))
 lt:(Ls.all λx=>x.lt Ls.length)=true
 ltr:ltX Ls.length r=true
 en:e=ZR ρ' r
 a1:∀b,A' b->A b\/w.heap.size<=b
 a2:∀b,A' b->b<w'.heap.size/\∀j,j<Ls.length->ρ' j≠b
 fs:∀f∈F1,f.h A' w'
def Af3 (ρ:Nm) (m:Nat) (w:World) (A:Nat->Prop) (Out:Ku) (e:Ending) (w':World):Prop:=
 ∃r Ls F1 ρ' A',Out r Ls F1/\PostX ρ m w A r Ls F1 ρ' A' e w'
def Cx (P:Program) (g:FuncId) (us:List TV) (mu:List XB) (F0:List Fact) (Out:Ku):Prop:=
 ∀(ρ:Nm) (A:Nat->Prop) (w:World),(∀i j,i<mu.length->j<mu.length->ρ i=ρ j->i=j)->(∀j x,mu[j]? =some x->w.heap[ρ j]? =some (.cells (x.den ρ).toArray x.ty (0,0))/\¬A (ρ j))->(∀b,A b->b<w.heap.size)->(∀f∈F0,f.h A w)->
  Calls P g (us.map (TV.den ρ)).toArray w (Af3 ρ mu.length w A Out)
def F5 (ks:List Nat) (n:Nat):Nm:=λj=>match ks[j]? with
 |some k=>k
 |none=>n+(j- ks.length)
def muX (L:LE) (r:Nm):Nat->List XB->Prop
 |_,[]=>True
 |j,x::rest=>Ah L (r j)=some (x.lc r)/\muX L r (j+1) rest
theorem TA {L:LE} {r:Nm}:∀ {mu:List XB} {i j:Nat} {x:XB},muX L r i mu->mu[j]? =some x->Ah L (r (i+j))=some (x.lc r)
 |x::rest,i,0,y,h,hj=>by cases hj;exact h.1
 |x::rest,i,j+1,y,h,hj=>by
  have:=TA (i:=i+1) (j:=j) h.2 (by simpa using hj);rwa[Ty,Nk 1 j] at this
def AX (r:Nm):Nat->List XB->LE->LE
 |_,[],L=>L
 |j,x::rest,L=>(r j,x.lc r)::AX r (j+1) rest L
theorem OS {r:Nm} {L:LE}:∀ {Ls:List XB} {i k:Nat} {e:LC},Ah (AX r i Ls L) k=some e->(∃j x,Ls[j]? =some x/\k=r (i+j)/\e=x.lc r)\/((∀j,j<Ls.length->k≠r (i+j))/\Ah L k=some e)
 | [],i,k,e,h=>.inr ⟨λj hj=>absurd hj (Nat.not_lt_zero _),h⟩
 |x::rest,i,k,e,h=>by
  rw[AX,As] at h;split at h
  ·rename_i hk;cases h;exact .inl ⟨0,x,I,hk,I⟩
  ·rename_i hk;rcases OS h with ⟨j,y,h1,h2,h3⟩|⟨h1,h2⟩
   ·exact .inl ⟨j+1,y,by simpa using h1,by rw[h2];congr 1;omega,h3⟩
   ·refine .inr ⟨λj hj=>?_,h2⟩;cases j with
    |zero=>exact hk
    |succ j=>have:=h1 j (by simpa using hj);rwa[show i+(j+1)=i+1+j by omega]
section
variable {X:Fx} {o:Oper} {T:TE} {L:LE} {n:Nat} {F:List Fact} {D:DF} {K:KK} {k:KS}
def Ai1 (X:Fx) (o:Oper) (T:TE) (L:LE) (n:Nat) (F:List Fact) (D:DF) (k:KS) (K:KK) (m:Nat) (rn:Nm) (r:TV ⊕ List PanicEntry) (Ls:List XB) (F1:List Fact):Prop:=
 match r with
 | .inl u=>match E7 X.k o.dst (u.ren rn) T with
  |some T'=>k T' (AX rn 0 Ls L) (n+(Ls.length- m)) (F1++F) D
  |none=>False
 | .inr ch=>K (.panic ch) T (AX rn 0 Ls L) (n+(Ls.length- m)) (F1++F) D
theorem Ae8 {a:Act} {w:World} {g:Nat} {us:List TV} {mu:List XB} {F0:List Fact} {Out:Ku} {ks:List Nat} {vs:Nm->List Value} (hr:Rel X T L n F D a w) (hm:mu.length=ks.length) (hmu:muX L (F5 ks n) 0 mu) (hnd:ks.Nodup)
  (hvs:∀ρ,vs ρ=us.map (TV.den λj=>ρ (F5 ks n j))) (ct:Cx X.P g us mu F0 Out) (hF0:∀f∈F0,f∈F):
  ∃A ρ,Rel0 X T L F D A ρ a w/\Calls X.P g (vs ρ).toArray w λe w'=>∃r Ls F1 ρ',Out r Ls F1/\e=ZR ρ' r/\Rel X T (AX (F5 ks n) 0 Ls L) (n+(Ls.length- ks.length)) (F1++F) D a w'/\
   ∀u,r=.inl u->∀T2 d,E7 X.k d (u.ren (F5 ks n)) T=some T2->Rel X T2 (AX (F5 ks n) 0 Ls L) (n+(Ls.length- ks.length)) (F1++F) D (a.put d (u.den ρ')) w':=by
 obtain⟨hkb,ρ0,A,hr0⟩:=hr;have h0:=hr0 ρ0 λ_ _=>I;refine⟨A,ρ0,h0,?_⟩;obtain⟨m,hmm⟩:∃m,m=ks.length:=⟨_,I⟩;have rks:∀j,j<m->∃h:j<ks.length,F5 ks n j=ks[j]:=λj hj=>by
  have h:j<ks.length:=by omega
  exact⟨h,by simp only[F5,A8 h]⟩
 have rnew:∀j,m<=j->F5 ks n j=n+(j- m):=λj hj=>by
  have h:ks.length<=j:=by omega
  simp only[F5,Cg h,hmm]
 have at0:∀j x,mu[j]? =some x->Ah L (F5 ks n j)=some (x.lc (F5 ks n)):=λj x hx=>by have:=TA hmu hx;rwa[Bl] at this
 have at1:∀j,j<m->∃x,mu[j]? =some x/\Ah L (F5 ks n j)=some (x.lc (F5 ks n)):=λj hj=>by
  have h:j<mu.length:=by omega
  exact⟨mu[j],A8 h,at0 j _ (A8 h)⟩
 have klt:∀j,j<m->F5 ks n j<n:=λj hj=>by obtain⟨x,_,h⟩:=at1 j hj;exact hkb _ _ h
 have rinj:∀i j,i<m->j<m->F5 ks n i=F5 ks n j->i=j:=λi j hi hj e=>by
  obtain⟨h1,e1⟩:=rks i hi;obtain⟨h2,e2⟩:=rks j hj;rw[e1,e2] at e;exact(P7 hnd).1 e
 rw[hvs ρ0];have hCm:=ct (λj=>ρ0 (F5 ks n j)) A w (λi j hi hj e=>by
   rw[hm,<-hmm] at hi hj;obtain⟨x,_,hx⟩:=at1 i hi;obtain⟨y,_,hy⟩:=at1 j hj;exact rinj i j hi hj (h0.ds _ _ _ _ (ρ0 (F5 ks n i)) hx hy (XB.lc_blk _) (by rw[XB.lc_blk];exact Fb some e.symm)))
  (λj x hx=>by
   have hl:=at0 j x hx;refine⟨(XB.lc_holds x).1 (h0.lo _ _ hl),λhA=>(h0.a2 _ hA).2 _ _ hl (XB.lc_blk _)⟩)
  (λb hb=>(h0.a2 b hb).1) λf hf=>h0.a3 f (hF0 f hf)
 refine hCm.mono ?_;rintro e w' ⟨r,Ls,F1,ρ',A',hout,P⟩;rw[hm,<-hmm] at P;obtain⟨ρ1,hρ1⟩:∃ρ1:Nm,ρ1=λk=>if k<n then ρ0 k else ρ' (m+(k- n)):=⟨_,I⟩
 have nm:∀j,ρ' j=ρ1 (F5 ks n j):=λj=>by
  by_cases hj:j<m
  ·rw[P.old j hj,hρ1];simp only[Bi (klt j hj)]
  ·have h:=rnew j tqO;rw[hρ1,h];simp only[Ar (show ¬n+(j- m)<n by omega)]
   congr 1;omega
 obtain⟨n2,hn2⟩:∃n2,n2=n+(Ls.length- m):=⟨_,I⟩;have ml:=P.ml;have rlt:∀j,j<Ls.length->F5 ks n j<n2:=λj hj=>by
  by_cases h:j<m
  ·have:=klt j h;omega
  ·rw[rnew j tqO];omega
 have rinj2:∀i j,i<Ls.length->j<Ls.length->F5 ks n i=F5 ks n j->i=j:=λi j hi hj e=>by
  by_cases h1:i<m
  ·by_cases h2:j<m
   ·exact rinj i j h1 h2 e
   ·have:=klt i h1;have:=rnew j tqO;omega
  ·by_cases h2:j<m
   ·have:=klt j h2;have:=rnew i tqO;omega
   ·have:=rnew i tqO;have:=rnew j tqO;omega
 have look:∀k e,Ah (AX (F5 ks n) 0 Ls L) k=some e->(∃j x,Ls[j]? =some x/\j<Ls.length/\k=F5 ks n j/\e=x.lc (F5 ks n))\/((∀j,j<m->k≠F5 ks n j)/\Ah L k=some e):=by
  intro k e hke;rcases OS hke with ⟨j,x,h1,h2,h3⟩|⟨h1,h2⟩
  ·exact .inl ⟨j,x,h1,(Aa.1 h1).1,by rw[h2,Bl],h3⟩
  ·exact .inr ⟨λj hj=>by have:=h1 j tqO;rwa[Bl] at this,h2⟩
 have core:∀ρ:Nm,(∀j,j<n2->ρ j=ρ1 j)->Rel0 X T (AX (F5 ks n) 0 Ls L) (F1++F) D (λb=>A b\/A' b) ρ a w'/\∀j,j<Ls.length->ρ (F5 ks n j)=ρ' j:=by
  intro ρ hρ;have hρ0:∀j,j<n->ρ j=ρ0 j:=λj hj=>by rw[hρ j tqO,hρ1];simp only[Bi hj]
  have hnm:∀j,j<Ls.length->ρ (F5 ks n j)=ρ' j:=λj hj=>by rw[hρ _ (rlt j hj),nm]
  have h1:=hr0 ρ hρ0;have notM:∀b,b∈(List.range m).map (λj=>ρ0 (F5 ks n j))->∃j,j<m/\b=ρ (F5 ks n j):=λb hb=>by
   obtain⟨j,hj,rfl⟩:=Cd.1 hb;rw[Hc] at hj;exact⟨j,hj,(hρ0 _ (klt j hj)).symm⟩
  have oldb:∀k e,(∀j,j<m->k≠F5 ks n j)->Ah L k=some e->∀b,e.blk ρ k=some b->b<w.heap.size/\w'.heap[b]? =w.heap[b]?:=by
   intro k e hk hke b hb;have hlt:=LC.lt (h1.lo k e hke) hb;refine⟨hlt,P.kp.keep b hlt λhm=>?_⟩;obtain⟨j,hj,rfl⟩:=notM b hm;obtain⟨x,_,hx⟩:=at1 j hj;exact hk j hj (h1.ds k _ e _ _ hke hx hb (XB.lc_blk _))
  have Aold:∀b,A b->w'.heap[b]? =w.heap[b]?:=by
   intro b hb;refine P.kp.keep b (h1.a2 b hb).1 λhm=>?_;obtain⟨j,hj,rfl⟩:=notM b hm;obtain⟨x,_,hx⟩:=at1 j hj;exact(h1.a2 _ hb).2 _ _ hx (XB.lc_blk _)
  have den:∀x,x∈Ls->x.den (λj=>ρ (F5 ks n j))=x.den ρ':=by
   intro x hx;have hl:=A6.1 P.lt x hx;cases x with
   |r cs t=>rfl
   |c cs t=>
    refine Ks (p:=SV.lt Ls.length) hl λs hs=>?_;have:=SV.ren_den (r:=λj=>j) (ρ:=ρ') (ρ':=λj=>ρ (F5 ks n j)) (n:=Ls.length) (λj hj=>hnm j hj) hs;rw[this];exact Fb (SV.den ρ') Sn
  refine⟨⟨⟨h1.tm,λk e hke=>?_,λf hf=>?_⟩,h1.sz,h1.df,?_,λk e b hke hb=>?_,λk1 k2 e1 e2 b hk1 hk2 hb1 hb2=>?_,λb hb=>?_,λb hb=>?_,h1.mb⟩,hnm⟩
  ·rcases look k e hke with ⟨j,x,hx,hj,rfl,rfl⟩|⟨hk,h2⟩
   ·rw[XB.lc_holds,den x (Av hx),hnm j hj];exact P.bl j x hx
   ·exact LC.keep (h1.lo k e h2) λb hb=>(oldb k e hk h2 b hb).2
  ·rcases B4.1 hf with hf|hf
   ·exact f.ok (λb hb=>.inr hb) (λ_ _=>I) (Grow.refl _) (P.fs f hf)
   ·exact f.ok (λb hb=>.inl hb) (λb hb=>Aold b hb) P.kp.grow (h1.a3 f hf)
  ·refine⟨P.kp.os.trans h1.kp.os,P.kp.tape.trans h1.kp.tape,P.kp.output.trans h1.kp.output,Bf h1.kp.size P.kp.size,λb hb hm=>?_⟩;rw[P.kp.keep b (Aw hb h1.kp.size) λhm2=>?_]
   ·exact h1.kp.keep b hb hm
   ·obtain⟨j,hj,rfl⟩:=notM b hm2;obtain⟨x,_,hx⟩:=at1 j hj;rcases h1.nw _ _ _ hx (XB.lc_blk _) with h2|h2
    ·exact hm h2
    ·omega
  ·rcases look k e hke with ⟨j,x,hx,hj,rfl,rfl⟩|⟨hk,h2⟩
   ·rw[XB.lc_blk,B7] at hb;subst hb;by_cases h:j<m
    ·obtain⟨y,_,hy⟩:=at1 j h;exact h1.nw _ _ _ hy (XB.lc_blk _)
    ·rw[hnm j hj];exact .inr (Bf h1.kp.size (P.new j tqO hj))
   ·exact h1.nw k e b h2 hb
  ·have cross:∀k e j x,Ls[j]? =some x->j<Ls.length->(∀j,j<m->k≠F5 ks n j)->Ah L k=some e->e.blk ρ k=some (ρ (F5 ks n j))->False:=by
    intro k e j x hx hj hk hke hb;have hlt:=LC.lt (h1.lo k e hke) hb;by_cases h:j<m
    ·obtain⟨y,_,hy⟩:=at1 j h;exact hk j h (h1.ds k _ e _ _ hke hy hb (XB.lc_blk _))
    ·rw[hnm j hj] at hlt;have:=P.new j tqO hj;omega
   rcases look k1 e1 hk1 with ⟨j,x,hx,hj,rfl,rfl⟩|⟨hk,h2⟩
   ·rcases look k2 e2 hk2 with ⟨j',x',hx',hj',rfl,rfl⟩|⟨hk',h2'⟩
    ·rw[XB.lc_blk,B7] at hb1 hb2;rw[hnm j hj] at hb1;rw[hnm j' hj'] at hb2;rw[P.inj j j' hj hj' (hb1.trans hb2.symm)]
    ·rw[XB.lc_blk,B7] at hb1;subst hb1;exact(cross k2 e2 j x hx hj hk' h2' hb2).elim
   ·rcases look k2 e2 hk2 with ⟨j',x',hx',hj',rfl,rfl⟩|⟨hk',h2'⟩
    ·rw[XB.lc_blk,B7] at hb2;subst hb2;exact(cross k1 e1 j' x' hx' hj' hk h2 hb1).elim
    ·exact h1.ds k1 k2 e1 e2 b h2 h2' hb1 hb2
  ·rcases hb with hb|hb
   ·exact h1.a1 b hb
   ·rcases P.a1 b hb with h|h
    ·exact h1.a1 b h
    ·exact .inr (Bf h1.kp.size h)
  ·rcases hb with hb|hb
   ·refine⟨Aw (h1.a2 b hb).1 P.kp.size,λk e hke hbk=>?_⟩;rcases look k e hke with ⟨j,x,hx,hj,rfl,rfl⟩|⟨hk,h2⟩
    ·rw[XB.lc_blk,B7] at hbk;subst hbk;by_cases h:j<m
     ·obtain⟨y,_,hy⟩:=at1 j h;exact(h1.a2 _ hb).2 _ _ hy (XB.lc_blk _)
     ·have:=P.new j tqO hj;have:=(h1.a2 _ hb).1;rw[hnm j hj] at this;omega
    ·exact(h1.a2 b hb).2 k e h2 hbk
   ·refine⟨(P.a2 b hb).1,λk e hke hbk=>?_⟩;rcases look k e hke with ⟨j,x,hx,hj,rfl,rfl⟩|⟨hk,h2⟩
    ·rw[XB.lc_blk,B7,hnm j hj] at hbk;exact(P.a2 b hb).2 j hj hbk
    ·rcases P.a1 b hb with h|h
     ·exact(h1.a2 b h).2 k e h2 hbk
     ·have:=LC.lt (h1.lo k e h2) hbk;omega
 have kb:∀k e,Ah (AX (F5 ks n) 0 Ls L) k=some e->k<n2:=by
  intro k e hke;rcases look k e hke with ⟨j,x,hx,hj,rfl,rfl⟩|⟨_,h2⟩
  ·exact rlt j hj
  ·have:=hkb k e h2;omega
 subst hn2;rw[<-hmm];refine⟨r,Ls,F1,ρ',hout,P.en,⟨kb,ρ1,_,λρ hρ=>(core ρ hρ).1⟩,?_⟩;rintro u rfl T2 d hp;refine⟨kb,ρ1,λb=>A b\/A' b,λρ hρ=>?_⟩;obtain⟨h1,h2⟩:=core ρ hρ;have hv:u.den ρ'=(u.ren (F5 ks n)).den ρ:=by
  rw[<-TV.ren_at];have hu:u.lt Ls.length=true:=P.ltr;have h3:∀s:SV,s.lt Ls.length=true->s.den ρ'=s.den (λj=>ρ (F5 ks n j)):=λs hs=>by
   have:=SV.ren_den (r:=λj=>j) (ρ:=ρ') (ρ':=λj=>ρ (F5 ks n j)) (n:=Ls.length) (λj hj=>h2 j hj) hs;rw[this];exact(Fb (SV.den ρ') Sn).symm
  cases u with
  |o x=>exact h3 x hu
  |t xs=>simp only[TV.den,C4];rw[Ks (p:=SV.lt Ls.length) hu h3]
  |g xs=>simp only[TV.den,C4];rw[Ks (p:=SV.lt Ls.length) hu h3]
 obtain⟨⟨e1,e2⟩,e3⟩:=FY hp h1.sz h1.tm hv;exact⟨⟨e3,h1.lo,h1.a3⟩,e1,by rw[e2];exact h1.df,h1.kp,h1.nw,h1.ds,h1.a1,h1.a2,h1.mb⟩
theorem Cf {c:Call} {f:Operand} {g:Nat} {fi ca:List PV} {us0 us:List TV} {mu:List XB} {F0:List Fact} {Out:Ku} (ks:List Nat) (hh:o.op=.call c/\c.callee=.value f/\Va T f=some (g,fi,ca)/\Rg T c.args.toList=some us0/\Ah X.tab.fn g=some ()/\DM fi us0 ca=us.map (TV.ren (F5 ks n))/\mu.length=ks.length) (hmu:muX L (F5 ks n) 0 mu) (ct:Cx X.P g us mu F0 Out) (h:∀r Ls F1,Out r Ls F1->Ai1 X o T L n F D k K ks.length (F5 ks n) r Ls F1) (hnd:ks.Nodup:=by exact tqS) (hF0:∀f∈F0,f∈F:=by exact tqF):OJs X o T L n F D k K:=by
 obtain⟨ho,hc,hf,hus,hfn,hargs,hm⟩:=hh;intro Q hQ Φ hΦ a w hr;obtain⟨A,ρ0,h0,hCm⟩:=Ae8 (vs:=λρ=>Gn ρ fi us0 ca) hr hm hmu hnd (λρ=>by rw[<-IB,hargs,Fp];exact Gv λu _=>(TV.ren_at u).symm) ct hF0;refine Oper.wpIn_of_run (by simp[Cw,ho]) ?_;rw[Qa h0.toVw ho hc hf hus hfn];refine⟨λhd=>by simp[Fx.fe,Fence.wide] at hd,?_⟩;refine Mk (show CallsIn X.fe (X.nn- 1) X.P g (Gn ρ0 fi us0 ca).toArray w _ from⟨trivial,((Fz (n:=X.nn- 1)).2 hCm).2⟩) ?_;rintro e w' ⟨r,Ls,F1,ρ',hout,rfl,rel,relp⟩;have hk:=h r Ls F1 hout;cases r with
 |inl u=>
  simp only[Ai1] at hk;split at hk
  ·rename_i T' hp;exact hΦ _ _ _ _ _ hk _ w' (relp u I T' o.dst hp)
  ·exact hk.elim
 |inr ch=>exact hQ _ _ _ _ _ _ hk a w' rel
end
def NB:Nat->List XB->LE
 |_,[]=>[]
 |j,x::rest=>(j,x.lc0)::NB (j+1) rest
theorem OR:∀ {mu:List XB} {i k:Nat} {e:LC},Ah (NB i mu) k=some e->∃j x,k=i+j/\mu[j]? =some x/\e=x.lc0
 |x::rest,i,k,e,h=>by
  rw[NB,As] at h;split at h
  ·rename_i hk;cases h;exact⟨0,x,tqO,I,I⟩
  ·obtain⟨j,y,h1,h2,h3⟩:=OR h;exact⟨j+1,y,tqO,by simpa using h2,h3⟩
section
variable {X:Fx} {T:TE} {L:LE} {n:Nat} {F:List Fact} {D:DF}
def DJ (ρ:Nm) (m:Nat) (X:Fx) (res:List ResultVar) (Out:Ku) (T:TE) (L:LE) (n:Nat) (F:List Fact) (D:DF):Prop:=
 ∀a w,Rel X T L n F D a w->a.defers=[]/\∀fn:Func,fn.results.toList=res->∃v,(results fn a.tmps).run X.P w=.ok v w/\Af3 ρ m X.w0 X.A0 Out (.returned v) w
def YY (ρ:Nm) (m:Nat) (X:Fx) (ch:List PanicEntry) (Out:Ku) (T:TE) (L:LE) (n:Nat) (F:List Fact) (D:DF):Prop:=
 ∀a w,Rel X T L n F D a w->a.defers=[]/\Af3 ρ m X.w0 X.A0 Out (.panicked ch) w
def Anz (ρ:Nm) (m:Nat) (X:Fx) (res:List ResultVar) (Out:Ku):KK:=λe T L n F D=>match e with
 | .normal=>DJ ρ m X res Out T L n F D
 | .ret=>DJ ρ m X res Out T L n F D
 | .panic ch=>YY ρ m X ch Out T L n F D
 |_=>False
theorem TZ {a:Act} {w:World} {A:Nat->Prop} {ρ ρc:Nm} {m:Nat} {ks:List Nat} {Ls:List XB} {F1:List Fact} {r:TV ⊕ List PanicEntry} (h0:Rel0 X T L F D A ρc a w) (hM:X.M=(List.range m).map ρ/\X.N=(List.range m).map ρ) (hm:ks.take m=List.range m) (hl:Ls.length=ks.length) (hnd:ks.Nodup)
  (hmu:muX L (F5 ks 0) 0 Ls) (hlt:(Ls.all λx=>x.lt Ls.length)=true) (hltr:ltX Ls.length r=true) (hF:∀f∈F1,f∈F):PostX ρ m X.w0 X.A0 r Ls F1 (λj=>ρc (F5 ks 0 j)) A (ZR (λj=>ρc (F5 ks 0 j)) r) w:=by
 have hml:m<=ks.length:=by have:=Fb List.length hm;simp at this;omega
 have at0:∀j x,Ls[j]? =some x->Ah L (F5 ks 0 j)=some (x.lc (F5 ks 0)):=λj x hx=>by have:=TA hmu hx;rwa[Bl] at this
 have at1:∀j,j<Ls.length->∃x,Ls[j]? =some x/\Ah L (F5 ks 0 j)=some (x.lc (F5 ks 0)):=λj h=>⟨Ls[j],A8 h,at0 j _ (A8 h)⟩;have rks:∀j (h:j<ks.length),F5 ks 0 j=ks[j]:=λj h=>by simp only[F5,A8 h]
 have low:∀j,j<m->F5 ks 0 j=j:=λj hj=>by
  rw[rks j tqO];have h1:(ks.take m)[j]? =some ks[j]:=by rw[Db hj,A8 tqO]
  rw[hm,Q1 hj] at h1;exact(Ij h1).symm
 have own:∀j,j<m->ρc j=ρ j:=λj hj=>h0.mb j (ρ j) (by rw[hM.2];simp[hj]);have big:∀j (h:j<ks.length),m<=j->X.w0.heap.size<=ρc (F5 ks 0 j):=by
  intro j h hj;obtain⟨x,_,hx⟩:=at1 j tqO;rcases h0.nw _ _ _ hx (XB.lc_blk _) with h1|h1
  ·rw[hM.1] at h1;obtain⟨i,hi,e⟩:=Cd.1 h1;rw[Hc] at hi;obtain⟨y,_,hy⟩:=at1 i tqO;rw[low i hi] at hy;have:=h0.ds _ _ _ _ _ hx hy (XB.lc_blk _) (by rw[XB.lc_blk,own i hi,e]);rw[rks j h] at this;have h2:ks[i]'tqO=i:=by rw[<-rks i tqO];exact low i hi
   have h3:ks[j]=ks[i]'tqO:=by rw[h2];exact this
   have:=(P7 hnd).1 h3;omega
  ·exact h1
 refine⟨tqO,λj hj=>by rw[low j hj];exact own j hj,by rw[<-hM.1];exact h0.kp,λj h1 h2=>big j tqO h1,λi j hi hj e=>?_,λj x hx=>?_,hlt,hltr,I,h0.a1,λb hb=>⟨(h0.a2 b hb).1,λj hj e=>?_⟩,λf hf=>h0.a3 f (hF f hf)⟩
 ·obtain⟨x,_,hx⟩:=at1 i hi;obtain⟨y,_,hy⟩:=at1 j hj;have:=h0.ds _ _ _ _ _ hx hy (XB.lc_blk _) (by rw[XB.lc_blk,e]);rw[rks i tqO,rks j tqO] at this;exact(P7 hnd).1 this
 ·exact(XB.lc_holds x).1 (h0.lo _ _ (at0 j x hx))
 ·obtain⟨x,_,hx⟩:=at1 j hj;exact(h0.a2 b hb).2 _ _ hx (by rw[XB.lc_blk];exact Fb some e)
theorem Dg {ρ:Nm} {m:Nat} {res:List ResultVar} {Out:Ku} {us:List TV} {u:TV} (ks:List Nat) (u':TV) (Ls:List XB) (F1:List Fact) (hmu:muX L (F5 ks 0) 0 Ls) (hout:Out (.inl u') Ls F1) (hres:Vs X.tab T L res=some us:=by exact I) (hu:Abl us=some u:=by exact I) (hu':u=u'.ren (F5 ks 0):=by exact I) (hD:D=λ_=>[]:=by exact I) (hm:ks.take m=List.range m:=by exact I) (hl:Ls.length=ks.length:=by exact I) (hlt:(Ls.all λx=>x.lt Ls.length)=true:=by exact I) (hltr:u'.lt Ls.length=true:=by exact I) (hM:X.M=(List.range m).map ρ/\X.N=(List.range m).map ρ:=by exact⟨I,I⟩) (hnd:ks.Nodup:=by exact tqS) (hF:∀f∈F1,f∈F:=by exact tqF):DJ ρ m X res Out T L n F D:=by
 intro a w hr;obtain⟨A,ρc,h0⟩:=hr.one;refine⟨by rw[h0.df,hD],λfn hfn=>⟨_,Mj h0.toVw (by rw[hfn];exact hres),.inl u',Ls,F1,λj=>ρc (F5 ks 0 j),A,hout,?_⟩⟩;have:=TZ (r:=.inl u') h0 hM hm hl hnd hmu hlt hltr hF;have e:Uo ρc us=u'.den (λj=>ρc (F5 ks 0 j)):=by rw[UT hu,hu'];exact(TV.ren_at u').symm
 rw[e];exact this
theorem Uh {ρ:Nm} {m:Nat} {ch:List PanicEntry} {Out:Ku} (ks:List Nat) (Ls:List XB) (F1:List Fact) (hD:D=λ_=>[]) (hM:X.M=(List.range m).map ρ/\X.N=(List.range m).map ρ)
  (hm:ks.take m=List.range m) (hl:Ls.length=ks.length) (hnd:ks.Nodup) (hmu:muX L (F5 ks 0) 0 Ls) (hlt:(Ls.all λx=>x.lt Ls.length)=true) (hout:Out (.inr ch) Ls F1) (hF:∀f∈F1,f∈F):YY ρ m X ch Out T L n F D:=by
 intro a w hr;obtain⟨A,ρc,h0⟩:=hr.one;exact⟨by rw[h0.df,hD],.inr ch,Ls,F1,_,A,hout,TZ (r:=.inr ch) h0 hM hm hl hnd hmu hlt I hF⟩
theorem DR {ρ:Nm} {m:Nat} {res:List ResultVar} {Out:Ku} {σ:Sg} (hw:Wk X T L n F D σ) (h:DJ ρ m X res Out σ.T σ.L σ.n σ.F σ.D):DJ ρ m X res Out T L n F D:=λa w hr=>h a w (hw a w hr)
end
theorem Anu {P:Program} {tab:Tab} {ok:tab.Ok P} {g:Nat} {fn:Func} {body:Code} {us:List TV} {mu:List XB} {F0:List Fact} {Out:Ku} {k:Nat} (hf:P.funcs[g]? =some fn) (hk:fn.ntmps=k) (h:∀ρ w0 A0,sx ⟨P,tab,ok,none,8,k,w0,A0,(List.range mu.length).map ρ,(List.range mu.length).map ρ⟩ body (U8 0 us) (NB 0 mu) mu.length F0 (λ_=>[]) (Anz ρ mu.length ⟨P,tab,ok,none,8,k,w0,A0,(List.range mu.length).map ρ,(List.range mu.length).map ρ⟩ fn.results.toList Out)) (hb:fn.body=some body:=by exact I) (hul:Nat.ble us.length k=true:=by exact I) (hlt:(us.all λu=>u.lt mu.length)=true:=by exact I) (hlm:(mu.all λx=>x.lt mu.length)=true:=by exact I):Cx P g us mu F0 Out:=by
 intro ρ A w hinj hmu hA hF;refine(Fz (n:=8)).1 (T4 hf hb trivial ?_ I);rw[hk];have hk2:us.length<=k:=by rwa[G6] at hul
 have hbeg:Rel ⟨P,tab,ok,none,8,k,w,A,(List.range mu.length).map ρ,(List.range mu.length).map ρ⟩ (U8 0 us) (NB 0 mu) mu.length F0 (λ_=>[]) {tmps:=(us.map (TV.den ρ)).toArray++Array.replicate (k- (us.map (TV.den ρ)).toArray.size) undef,defers:=[]} w:=by
  have klt:∀j e,Ah (NB 0 mu) j=some e->j<mu.length/\∃x,mu[j]? =some x/\e=x.lc0:=λj e h=>by
   obtain⟨i,x,h1,h2,h3⟩:=OR h;rw[Bl] at h1;subst h1;exact⟨(Aa.1 h2).1,x,h2,h3⟩
  refine⟨λj e h=>(klt j e h).1,ρ,A,λρ1 hρ1=>?_⟩;have sv:∀s:SV,s.lt mu.length=true->s.den ρ1=s.den ρ:=λs hs=>by
   rw[SV.ren_den (r:=λj=>j) (ρ:=ρ) (n:=mu.length) hρ1 hs];exact Fb (SV.den ρ) Sn
  have tv:∀u:TV,u.lt mu.length=true->u.den ρ1=u.den ρ:=λu hu=>by
   cases u with
   |o x=>exact sv x hu
   |t xs=>simp only[TV.den,C4];rw[Ks (p:=SV.lt mu.length) hu sv]
   |g xs=>simp only[TV.den,C4];rw[Ks (p:=SV.lt mu.length) hu sv]
  have xb:∀x:XB,x.lt mu.length=true->x.den ρ1=x.den ρ:=λx hx=>by
   cases x with
   |r cs t=>rfl
   |c cs t=>exact Ks (p:=SV.lt mu.length) hx sv
  have hxl:∀(j:Nat) x,mu[j]? =some x->x.lt mu.length=true:=λj x hx=>A6.1 hlm x (Av hx);refine⟨⟨λt x hx=>?_,λj e hj=>?_,hF⟩,by simp;omega,I,Kp.refl _ _,λj e b hj hb=>?_,λj j' e e' b hj hj' hb hb'=>?_,λb hb=>.inl hb,λb hb=>⟨hA b hb,λj e hj hbk=>?_⟩,λi b hi=>?_⟩
  ·obtain⟨j,rfl,hj⟩:=Rh hx;have h1:(us.map (TV.den ρ))[j]? =some (x.den ρ1):=by
    rw[tv x (A6.1 hlt x (Av hj))];simp[hj]
   have hjl:=(Aa.1 h1).1;rw[Bl,Bp,Iq (by simpa using hjl)];simp[h1]
  ·obtain⟨hjl,x,hx,rfl⟩:=klt j e hj;rw[XB.lc0_holds,xb x (hxl j x hx),hρ1 j hjl];exact(hmu j x hx).1
  ·obtain⟨hjl,x,hx,rfl⟩:=klt j e hj;rw[XB.lc0_blk,B7,hρ1 j hjl] at hb;exact .inl (Cd.2 ⟨j,Hc.2 hjl,hb⟩)
  ·obtain⟨hjl,x,hx,rfl⟩:=klt j e hj;obtain⟨hjl',x',hx',rfl⟩:=klt j' e' hj';rw[XB.lc0_blk,B7,hρ1 j hjl] at hb;rw[XB.lc0_blk,B7,hρ1 j' hjl'] at hb';exact hinj j j' hjl hjl' (hb.trans hb'.symm)
  ·obtain⟨hjl,x,hx,rfl⟩:=klt j e hj;rw[XB.lc0_blk,B7,hρ1 j hjl] at hbk;exact(hmu j x hx).2 (hbk ▸ hb)
  ·simp only[Cq,Dn] at hi;obtain⟨j,hj,rfl⟩:=hi;obtain⟨g1,g2⟩:=Aa.1 hj;simp at g1 g2;subst g2;exact hρ1 i g1
 refine Ht (h ρ w A) _ ?_ _ _ hbeg;intro e T L n F D hK a w' hr;cases e with
 |normal=>
  obtain⟨h1,h2⟩:=hK a w' hr;obtain⟨v,h3,h4⟩:=h2 fn I;exact⟨h1,v,h3,h4⟩
 |ret=>
  obtain⟨h1,h2⟩:=hK a w' hr;obtain⟨v,h3,h4⟩:=h2 fn I;exact⟨h1,v,h3,h4⟩
 |panic ch=>exact hK a w' hr
 |exit id=>exact hK.elim
 |goto l=>exact hK.elim
 |outgrown=>exact hK.elim
def tqx:=@Anu prog tb R8
theorem VR {P:Program} {a:Act} {Q:Exit->Act->World->Prop} {c rest:Code} (l:Nat) (hf:findLabel c l=some rest)
  (h:c.wp P (Exit.jump l (λa w=>rest.wp P (Exit.noGoto Q) a w) Q) a w):(Code.scope c).wp P Q a w:=
 wp_scope_jumps l (λa w=>rest.wp P (Exit.noGoto Q) a w) (λ_ _=>0) hf h λa w hJ=>
  Code.wp_mono (λe a' w' q=>by cases e<;>first|exact q|exact q.elim) hJ
section
variable {X:Fx} {T:TE} {L:LE} {n:Nat} {F:List Fact} {D:DF} {K:KK} {o:Oper} {k:KS} {c:Code}
theorem Io {t:TypeId} {x ix:Operand} {cells:List SV} {ki:IntKind} {z:Int} {i m e sz:Nat} {kd:Option Nat} {u:TV} (hz:z=(i:Int):=by exact I) (ho:o.op=.index t x ix:=by exact I) (ha:Ah X.tab.ar t=some (m,e,sz):=by exact I) (hk:Ah X.tab.kd e=some kd:=by exact I) (hx:evS T x=some (.g cells):=by exact I) (hix:evS T ix=some (.o (.v (.int ki z))):=by exact I) (hp:Pf kd cells (i*sz)=some u:=by exact I) (hi:i<m:=by exact tqD):Yd X o T L F u:=by
 subst hz;refine⟨by simp[Cw,ho],λA ρ a w h0=>?_⟩;obtain⟨h1,i',h2,h3⟩:=Zv (X.ok.ar _ _ ha);simp only at h1 h2 h3;have:=Up (X.ok.kd _ _ hk) (R2 hp ρ) w;simp[execOp,ho,h0.ev hx,h0.ev hix,TV.den,SV.den,Instr.index,asIntOf,At h1,sizeOf,typeInfo,h2,h3,hi,this]
variable {ki:IntKind} {x:Operand}
theorem S1 {t:TypeId} {ix:Operand} {cs:Array Value} {z:Int} {i m e sz:Nat} {kd:Option Nat} {u:TV} (hz:z=(i:Int)) (hi:i<m) (ho:o.op=.index t x ix) (ha:Ah X.tab.ar t=some (m,e,sz)) (hk:Ah X.tab.kd e=some kd) (hx:evS T x=some (.o (.v (.agg cs)))) (hix:evS T ix=some (.o (.v (.int ki z)))) (hp:Pf kd (cs.toList.map SV.v) (i*sz)=some u):Yd X o T L F u:=by
 subst hz;refine⟨by simp[Cw,ho],λA ρ a w h0=>?_⟩;obtain⟨h1,i',h2,h3⟩:=Zv (X.ok.ar _ _ ha);simp only at h1 h2 h3;have:=Up (X.ok.kd _ _ hk) (R2 hp ρ) w;rw[OV] at this;simp only[M8] at this;simp[execOp,ho,h0.ev hx,h0.ev hix,TV.den,SV.den,Instr.index,asIntOf,At h1,sizeOf,typeInfo,h2,h3,hi,this]
def Al2 (op:BinOp) (a b:Int):Option Int:=match op with| .quo=>some (a.tdiv b)| .rem=>some (a.tmod b)|_=>none
theorem L5 {bop:BinOp} {t t2:TypeId} {y:Operand} {p q r:Int} (hq:q≠0) (hlo: -9223372036854775808<=r) (hhi:r<=9223372036854775807) (ho:o.op=.binOp bop t x y t2) (hx:evS T x=some (.o (.v (.int .i64 p)))) (hy:evS T y=some (.o (.v (.int .i64 q)))) (hr:Al2 bop p q=some r):Yd X o T L F (.o (.v (.int .i64 r))):=by
 refine⟨by simp[Cw,ho],λA ρ a w h0=>?_⟩;have e1:=h0.ev hx;have e2:=h0.ev hy;simp only[TV.den,SV.den] at e1 e2;have hgd:(eqGuard bop t x y (.int .i64 p) (.int .i64 q)).run X.P w=.ok () w:=by
  unfold eqGuard;cases bop<;>simp
 have hw:=Ey hlo hhi;unfold Al2 at hr;split at hr<;>cases hr<;>simp[execOp,ho,e1,e2,hgd,binOp,Op.intDiv,hq,hw,TV.den,SV.den]
def KL (P:Program) (t:TypeId) (k:IntKind):Bool:=match P.underlying t with|some (.int k')=>Nat.beq (ikN k) (ikN k')|_=>false
theorem S2 {src dst:TypeId} {kj:IntKind} {p r:Int} (hs:(X.P.underlying src).isSome=true) (hd:KL X.P dst kj=true) (hr:kj.wrap p=r) (ho:o.op=.convert src dst x) (hx:evS T x=some (.o (.v (.int ki p)))):Yd X o T L F (.o (.v (.int kj r))):=by
 subst hr;refine⟨by simp[Cw,ho],λA ρ a w h0=>?_⟩;obtain⟨d,hd1⟩:=Nn.1 hs;have hd2:X.P.underlying dst=some (.int kj):=by
  unfold KL at hd;split at hd
  ·rename_i k' hk;rw[FT (Bq hd)];exact hk
  ·cases hd
 have e1:=h0.ev hx;simp only[TV.den,SV.den] at e1;simp[execOp,ho,e1,convert,At hd1,At hd2,Conv.intToInt,TV.den,SV.den]
def An5 (l:Nat) (J:TE->LE->Nat->List Fact->DF->Prop) (K:KK):KK:=λe T L n F D=>match e with
 | .goto l'=>l'=l/\J T L n F D
 |e=>K e T L n F D
theorem Vb {rest:Code} (l:Nat) (hr:X.r=none) (hf:findLabel c l=some rest) (h:sx X c T L n F D (An5 l (λT L n F D=>sx X rest T L n F D (Aav K)) K)):CJs X (.scope c) T L n F D K:=by
 intro Q hQ a w hrel;have hfe:X.fe=Fence.wide:=by unfold Fx.fe;rw[hr];rfl
 have key:∀T L n F D,sx X rest T L n F D (Aav K)->∀a w,Rel X T L n F D a w->rest.wp X.P (Exit.noGoto Q) a w:=λT L n F D hs a w hrel=>by
  have:=Ht hs (Exit.noGoto Q) (λe T L n F D hK a w hr'=>by
   cases e with
   |goto l=>exact hK.elim
   |normal=>exact hQ _ _ _ _ _ _ hK a w hr'
   |exit id=>exact hQ _ _ _ _ _ _ hK a w hr'
   |ret=>exact hQ _ _ _ _ _ _ hK a w hr'
   |panic ch=>exact hQ _ _ _ _ _ _ hK a w hr'
   |outgrown=>exact hQ _ _ _ _ _ _ hK a w hr') a w hrel
  rw[hfe] at this;exact H9.1 this
 have:=Ht h (Exit.jump l (λa w=>rest.wp X.P (Exit.noGoto Q) a w) Q) (λe T L n F D hK a w hr'=>by
  cases e with
  |goto l=>exact⟨hK.1,key _ _ _ _ _ hK.2 a w hr'⟩
  |normal=>exact hQ _ _ _ _ _ _ hK a w hr'
  |exit id=>exact hQ _ _ _ _ _ _ hK a w hr'
  |ret=>exact hQ _ _ _ _ _ _ hK a w hr'
  |panic ch=>exact hQ _ _ _ _ _ _ hK a w hr'
  |outgrown=>exact hQ _ _ _ _ _ _ hK a w hr') a w hrel
 rw[hfe] at this⊢;exact H9.2 (VR l hf (H9.1 this))
end
section
variable {X:Fx} {T:TE} {L:LE} {n:Nat} {F:List Fact} {D:DF} {K:KK} {o:Oper} {c:Code}
theorem DE {fn:FuncId} {x:Operand} {u:TV} {v:Value} (ho:o.op=.makeFunc (.func fn) #[x] #[]) (hx:evS T x=some u) (hu:∀ρ,u.den ρ=v):Yd X o T L F (.o (.v (.func (.func fn) #[v] #[]))):=by
 refine⟨by simp[Cw,ho],λA ρ a w h0=>?_⟩;have e1:=h0.ev hx;rw[hu] at e1;simp[execOp,ho,Instr.makeFunc,e1,TV.den,SV.den]
theorem Rj {γ:Type} (p:γ->Prop) (PT:γ->TE) (PL:γ->LE) (FF:γ->List Fact) (μ:γ->Nat) (g0:γ) (h0:p g0) (hw:Wk X T L n F D ⟨PT g0++T,PL g0++L,n,FF g0,D⟩)
  (hr:∀g,p g->sx X c (PT g++T) (PL g++L) n (FF g) D (Aar X p (λg=>⟨PT g++T,PL g++L,n,FF g,D⟩) μ g K)):CJs X (.loop c) T L n F D K:=
 ID p (λg=>⟨PT g++T,PL g++L,n,FF g,D⟩) μ g0 h0 hw hr
end
section
variable {X:Fx} {T:TE} {L:LE} {F:List Fact} {o:Oper}
theorem Ha {t:TypeId} {parts:Array (Nat×Operand)} {m e sz:Nat} {zs:List Nat} {cs:List SV} (ho:o.op=.build t parts:=by exact I) (ha:Ah X.tab.ar t=some (m,e,sz):=by exact I) (hz:Ah X.tab.ze t=some zs:=by exact I) (hl:zs.length=parts.toList.length*sz:=by exact I) (hcs:TN sz T 0 parts.toList=some cs:=by exact I):Yd X o T L F (.g cs):=by
 refine⟨by simp[Cw,ho],λA ρ a w h0=>?_⟩;obtain⟨h1,i',h2,h3⟩:=Zv (X.ok.ar _ _ ha);simp only at h1 h2 h3;obtain⟨i,z,hi,hz1,hz2⟩:=Ts (X.ok.ze _ _ hz);have hlen:(C4 ρ (Nz zs)).length=(0+parts.toList.length)*sz:=by simp[C4,Nz,hl]
 have hf:=(IV h0 hcs hlen).1;have hb:X.P.built t (parts.map λ(i,x)=>(i,a.eval x)).toList=some (C4 ρ cs).toArray:=by
  unfold Program.built;simp only[hi,h1,hz1,h2,h3,hz2 ρ];rw[Di];simpa using hf
 simp only[execOp,ho,Ba,run_build w t _ _ hb,An,Bh,TV.den]
end
theorem Acw {l:List Bool}:∀ {i:Nat},l[i]? =some false->(l.set i true).count false+1=l.count false:=by
 induction l with
 |nil=>intro i h;simp at h
 |cons b l ih=>
  intro i h;cases i with
  |zero=>
   simp only[Lw,B7] at h;subst h;simp
  |succ i=>
   simp only[Ip] at h;have:=ih h;simp only[Xe,List.count_cons];omega
variable {i:Nat}
theorem ZK {l:List Bool} (h:l.count false=0) (hi:i<l.length):l[i]? =some true:=by
 rw[List.count_eq_zero] at h;rw[A8 hi];cases hb:l[i] with
 |true=>rfl
 |false=>exact absurd (hb ▸ Ua hi) h
def JP (ops:List Oper):Bool:=(List.range ops.length).all λi=>match ops[i]? with
 |some o=>o.after.toList.all λe=> !Region.binds .any e||Nat.blt e.on i
 |none=>true
theorem JQ {ops:List Oper} (h:JP ops=true) {o:Oper} (ho:ops[i]? =some o) {e:Edge} (he:e∈o.after) (hb:Region.binds .any e=true):e.on<i:=by
 have hi:=(Aa.1 ho).1;have:=A6.1 h i (Hc.2 hi);simp only[ho] at this;have:=A6.1 this e (by simpa using he);simpa [hb] using this
def upd (done:Nat->Bool) (i:Nat):Nat->Bool:=λj=>Nat.beq j i||done j
theorem JJ (done:Nat->Bool) (i:Nat):upd done i i=true:=by simp[upd]
theorem NW {done:Nat->Bool} {j:Nat} (h:done j=true):upd done i j=true:=by simp[upd,h]
theorem MH {done:Nat->Bool} {j:Nat} (h:j≠i):upd done i j=done j:=by
 have:Nat.beq j i=false:=by rw[Bo];simpa using h
 simp[upd,this]
section
variable {Fe:Fence} {nn:Nat} {P:Program} {Q:Exit->Act->World->Prop}
theorem Afw {ops:Array Oper} (I9:(Nat->Bool)->Act->World->Prop) (hac:JP ops.toList=true)
  (hstep:∀(done:Nat->Bool) i o a w,ops[i]? =some o->done i=false->(∀e∈o.after,Region.binds .any e=true->done e.on=true)->I9 done a w->wpOpIn Fe nn P ops Q i (λa' w'=>I9 (upd done i) a' w') a w)
  (hfin:∀(done:Nat->Bool) a w,(∀i,i<ops.size->done i=true)->I9 done a w->Q .normal a w):
  ∀(fuel:Nat) (listed:Array Bool) (a:Act) (w:World),listed.size=ops.size->listed.toList.count false<=fuel->I9 (λj=>listed.getD j false) a w->wpAnyIn Fe nn P .any ops Q fuel listed a w:=by
 have full:∀(listed:Array Bool),listed.size=ops.size->Region.ready .any ops listed=[]->∀i,i<ops.size->listed.getD i false=true:=by
  intro listed hl h0 i;induction i using Nat.strongRecOn with
  |_ i ih=>
   intro hi;cases hb:listed.getD i false with
   |true=>rfl
   |false=>
    exfalso;obtain⟨o,ho⟩:∃o,ops[i]? =some o:=⟨_,K8 hi⟩;have:i∈Region.ready .any ops listed:=mem_ready.2 ⟨by
     simp only[Bp,K8 (show i<listed.size by omega),Hz] at hb⊢;exact hb,o,ho,λe he hbd=>by
      have hlt:=JQ hac (by simpa using ho) he hbd;exact ih e.on hlt tqO⟩
    rw[h0] at this;cases this
 have none0:∀(listed:Array Bool),listed.size=ops.size->listed.toList.count false=0->Region.ready .any ops listed=[]:=by
  intro listed hl h0;rw[List.eq_nil_iff_forall_not_mem];intro i hi;obtain⟨h1,o,ho,_⟩:=mem_ready.1 hi;have hlt:=(B5.1 ho).1;have:=ZK h0 (i:=i) (by simpa [hl] using hlt);simp only[Bp,Array.getElem?_toList] at h1 this;rw[this] at h1;simp at h1
 intro fuel;induction fuel with
 |zero=>
  intro listed a w hl hc hI;have h0:=none0 listed hl (Nat.le_zero.1 hc);exact⟨h0,hfin _ a w (full listed hl h0) hI⟩
 |succ fuel ih=>
  intro listed a w hl hc hI;refine⟨λh0=>hfin _ a w (full listed hl h0) hI,λi hi=>?_⟩;obtain⟨h1,o,ho,hd⟩:=mem_ready.1 hi;have hlt:=(B5.1 ho).1;have hli:listed[i]? =some false:=by
   rw[K8 (show i<listed.size by omega)];simp only[Bp,K8 (show i<listed.size by omega),Hz] at h1;rw[h1]
  refine wpOpIn_mono (λa' w' h=>?_) (hstep (λj=>listed.getD j false) i o a w ho (by simp[Bp,hli]) hd hI);refine ih _ a' w' (by simpa using hl) ?_ ?_
  ·have:=Acw (l:=listed.toList) (i:=i) (by simpa using hli);simp only[Array.toList_setIfInBounds];omega
  ·have e:(λj=>(listed.setIfInBounds i true).getD j false)=upd (λj=>listed.getD j false) i:=by
    funext j
    by_cases hj:j=i
    ·subst hj;rw[JJ];simp[Bp,show j<listed.size by omega]
    ·rw[MH hj];simp[Bp,Dz (Ut hj)]
   rw[e];exact h
end
section
variable {X:Fx} {T:TE} {L:LE} {n:Nat} {F:List Fact} {D:DF} {K:KK} {k:KS} {o:Oper}
def mE:Nat->List (Int×Value)->List MapEntry
 |_,[]=>[]
 |i,(z,v)::r=> {key:=.int .i64 z,val:=v,born:=i}::mE (i+1) r
def Np (ms:List (Int×Value)):Obj:=.map (mE 0 ms).toArray ms.length
def Jj:List (Int×Value)->Int->Option Value
 | [],_=>none
 |(z,v)::r,k=>if k=z then some v else Jj r k
theorem YC (z:Int) (v:Value):∀(ms:List (Int×Value)) (i:Nat),mE i (ms++[(z,v)])=mE i ms++[{key:=.int .i64 z,val:=v,born:=i+ms.length}]
 | [],i=>rfl
 |(y,u)::r,i=>by
  simp only[E2,mE,YC z v r (i+1),Ct];rw[show i+1+r.length=i+(r.length+1) by omega]
theorem KT {z k:Int} {v:Value}:∀ {ms:List (Int×Value)},Jj (ms++[(z,v)]) k=(Jj ms k).or (if k=z then some v else none)
 | []=>by simp[Jj]
 |(y,u)::r=>by
  simp only[E2,Jj];split
  ·rfl
  ·exact KT
theorem XR {k:Int}:∀(ms:List (Int×Value)) (j i:Nat),Instr.findNow (.int .i64) (.int .i64 k) (mE j ms) i=some (match Jj ms k with|some v=>some (i+(ms.findIdx λp=>p.1 == k),v)|none=>none)
 | [],_,_=>rfl
 |(y,u)::r,j,i=>by
  simp only[mE,Instr.findNow,Instr.sameNow,Jj];by_cases h:k=y
  ·subst h;simp[Mz]
  ·have h2:(k == y)=false:=by simpa using h
   have h3:(y == k)=false:=by simpa using (λe:y=k=>h e.symm)
   simp only[Ar h,h2,If,XR r (j+1) (i+1),Mz,h3,By];cases Jj r k with
   |none=>rfl
   |some v=>simp;omega
def Zc (P:Program) (t e:TypeId):Bool:=match P.underlying t with
 |some (.map q e')=>Nat.beq e e'&&KL P q .i64
 |_=>false
variable {P:Program} {t:TypeId}
theorem AW {e:TypeId} (h:Zc P t e=true):∃q,P.underlying t=some (.map q e)/\P.underlying q=some (.int .i64):=by
 unfold Zc at h;split at h
 ·rename_i q e' ht;rw[Ad,Es] at h;obtain⟨rfl,h⟩:=h;refine⟨q,ht,?_⟩;unfold KL at h;split at h
  ·rename_i k' hk;have:=FT (Bq h);rw[hk,<-this]
  ·cases h
 ·cases h
def KN (P:Program) (t:TypeId):Bool:=match P.underlying t with
 |some (.map q _)=>KL P q .i64
 |_=>false
theorem GY (h:KN P t=true):∃e,Zc P t e=true:=by
 unfold KN at h;split at h
 ·rename_i q e ht;exact⟨e,by simp[Zc,ht,h]⟩
 ·cases h
theorem Y6 {q:TypeId} (hq:P.underlying q=some (.int .i64)) (em:Bool) (n:Nat) (z:Int) (w:World):(Instr.checkKey em (n+1) q (.int .i64 z)).run P w=.ok () w:=by
 simp[Instr.checkKey,At hq]
theorem AU {q:TypeId} (hq:P.underlying q=some (.int .i64)) (z:Int) (ms:List (Int×Value)) (w:World):
  (Instr.findKey q (.int .i64 z) (mE 0 ms)).run P w=.ok (match Jj ms z with|some v=>some (0+(ms.findIdx λp=>p.1 == z),v)|none=>none) w:=by
 simp only[Instr.findKey,Ba,At hq,An,XR,Bh]
theorem Abn {e:TypeId} (ht:Zc P t e=true) {g:Nat} {ms:List (Int×Value)} {z:Int} (hz:Jj ms z=none) (v:Value) {w:World} (hg:w.heap[g]? =some (Np ms)):
  (Instr.mapUpdate t (.map (some g)) (.int .i64 z) v).run P w=.ok () {w with heap:=w.heap.setIfInBounds g (Np (ms++[(z,v)]))}:=by
 obtain⟨q,h1,h2⟩:=AW ht;have hf:=AU h2 z ms w;rw[hz] at hf;have hs:=MapKept.run_setObj_map (P:=P) (.map ((mE 0 ms).toArray.push {key:=.int .i64 z,val:=v,born:=ms.length}) (ms.length+1)) hg;have e:Np (ms++[(z,v)])=.map ((mE 0 ms).toArray.push {key:=.int .i64 z,val:=v,born:=ms.length}) (ms.length+1):=by
  simp[Np,YC]
 rw[e];simp only[Instr.mapUpdate,Ba,At h1,An,Th hg,Y6 h2,hf,hs]
theorem Rel.ob {a:Act} {w w':World} {j g:Nat} {o o':Obj} (h:Rel X T L n F D a w) (hj:Ah L j=some (.ob g o)) (ho:w'.heap[g]? =some o') (hg:w.grownBy w' (some g)):Rel X T ((j,.ob g o')::L) n F D a w':=by
 obtain⟨hkb,ρ0,A,h0⟩:=h;refine⟨λk e hk=>?_,ρ0,A,λρ hρ=>?_⟩
 ·rw[As] at hk;split at hk
  ·rename_i ek;rw[ek];exact hkb _ _ hj
  ·exact hkb _ _ hk
 have h1:=h0 ρ hρ;have old:∀b,b<w.heap.size->b≠g->w'.heap[b]? =w.heap[b]?:=λb hb hn=>hg.block b hb λe=>hn (Ij e);have hgl:g<w.heap.size:=LC.lt (h1.lo j _ hj) I;have bl:∀k e' b,Ah ((j,LC.ob g o')::L) k=some e'->e'.blk ρ k=some b->(k=j/\b=g)\/(k≠j/\Ah L k=some e'/\b<w.heap.size/\b≠g):=by
  intro k e' b hk hb;rw[As] at hk;split at hk
  ·rename_i ek;cases hk;exact .inl ⟨ek,by simpa [LC.blk] using hb.symm⟩
  ·rename_i ek;exact .inr ⟨ek,hk,LC.lt (h1.lo k e' hk) hb,λhv=>ek (h1.ds k j e' _ b hk hj hb (by rw[hv];rfl))⟩
 have Ab:∀b,A b->b≠g:=λb hb e=>(h1.a2 b hb).2 j _ hj (by rw[e];rfl);refine⟨⟨h1.tm,?_,λf hf=>f.ok (w:=w) (λ_ h=>h) (λb hb=>old b (h1.a2 b hb).1 (Ab b hb)) ⟨hg.os,hg.tape,hg.output,hg.size⟩ (h1.a3 f hf)⟩,h1.sz,h1.df,?_,?_,?_,h1.a1,?_,h1.mb⟩
 ·intro k e' hk;have hk0:=hk;rw[As] at hk;split at hk
  ·cases hk;exact ho
  ·rename_i ek;refine LC.keep (w:=w) (h1.lo k e' hk) λb hb=>?_;rcases bl k e' b hk0 hb with ⟨e1,_⟩|⟨_,_,h3,h4⟩
   ·exact absurd e1 ek
   ·exact old b h3 h4
 ·refine⟨hg.os.trans h1.kp.os,hg.tape.trans h1.kp.tape,hg.output.trans h1.kp.output,Bf h1.kp.size hg.size,λb hb hm=>?_⟩;rw[old b (Aw hb h1.kp.size) λhv=>?_]
  ·exact h1.kp.keep b hb hm
  ·subst hv;rcases h1.nw j _ b hj I with h2|h2
   ·exact hm h2
   ·omega
 ·intro k e' b hk hb;rcases bl k e' b hk hb with ⟨_,hv⟩|⟨_,h2,_,_⟩
  ·subst hv;exact h1.nw j _ b hj I
  ·exact h1.nw k e' b h2 hb
 ·intro k1 k2 f1 f2 b hk1 hk2 hb1 hb2;rcases bl k1 f1 b hk1 hb1 with ⟨e1,hv1⟩|⟨_,h2,h3,h4⟩<;>rcases bl k2 f2 b hk2 hb2 with ⟨e2,hv2⟩|⟨_,h2',h3',h4'⟩
  ·rw[e1,e2]
  ·exact absurd hv1 h4'
  ·exact absurd hv2 h4
  ·exact h1.ds k1 k2 f1 f2 b h2 h2' hb1 hb2
 ·intro b hb;refine⟨Aw (h1.a2 b hb).1 hg.size,λk e' hk hbk=>?_⟩;rcases bl k e' b hk hbk with ⟨_,hv⟩|⟨_,h2,_,_⟩
  ·exact Ab b hb hv
  ·exact(h1.a2 b hb).2 k e' h2 hbk
theorem Rel.newOb {a:Act} {w:World} (ob:Obj) (h:Rel X T L n F D a w):Rel X T ((n,.ob w.heap.size ob)::L) (n+1) F D a (w.alloc ob):=by
 obtain⟨hkb,ρ0,A,h0⟩:=h;refine⟨λk e hk=>?_,ρ0,A,λρ hρ=>?_⟩
 ·rw[As] at hk;split at hk
  ·omega
  ·have:=hkb k e hk;omega
 have h1:=h0 ρ λj hj=>hρ j tqO;have hW:X.w0.heap.size<=w.heap.size:=h1.kp.size;have old:∀b,b<w.heap.size->(w.alloc ob).heap[b]? =w.heap[b]?:=λb hb=>Gw w _ b hb;have bl:∀k e b,Ah ((n,LC.ob w.heap.size ob)::L) k=some e->e.blk ρ k=some b->(k=n/\b=w.heap.size)\/(k≠n/\Ah L k=some e/\b<w.heap.size):=by
  intro k e b hk hb;rw[As] at hk;split at hk
  ·rename_i ek;cases hk;exact .inl ⟨ek,by simpa [LC.blk] using hb.symm⟩
  ·rename_i ek;exact .inr ⟨ek,hk,LC.lt (h1.lo k e hk) hb⟩
 refine⟨⟨h1.tm,?_,λf hf=>f.ok (λ_ h=>h) (λb hb=>old b (h1.a2 b hb).1) ⟨I,I,I,tqS⟩ (h1.a3 f hf)⟩,h1.sz,h1.df,h1.kp.trans ⟨I,I,I,tqS,λb hb _=>old b hb⟩,?_,?_,h1.a1,?_,h1.mb⟩
 ·intro k e hk;rw[As] at hk;split at hk
  ·cases hk;exact E6 w _
  ·exact LC.keep (h1.lo k e hk) λb hb=>old b (LC.lt (h1.lo k e hk) hb)
 ·intro k e b hk hb;rcases bl k e b hk hb with ⟨_,rfl⟩|⟨_,h3,_⟩
  ·exact .inr hW
  ·exact h1.nw k e b h3 hb
 ·intro k k' e e' b hk hk' hb hb';rcases bl k e b hk hb with ⟨rfl,rfl⟩|⟨_,h3,h4⟩<;>rcases bl k' e' _ hk' hb' with ⟨rfl,_⟩|⟨_,h3',h4'⟩
  ·rfl
  ·omega
  ·omega
  ·exact h1.ds k k' e e' b h3 h3' hb hb'
 ·intro b hb;refine⟨by have:=(h1.a2 b hb).1;simp;omega,λk e hk hbk=>?_⟩;rcases bl k e b hk hbk with ⟨_,rfl⟩|⟨_,h3,_⟩
  ·have:=(h1.a2 _ hb).1;omega
  ·exact(h1.a2 b hb).2 k e h3 hbk
theorem HF {d:Nat} (ho:o.op=.makeMap t none) (hd:o.dst=some d) (hdk:Nat.blt d X.k=true)
  (h:∀g,k ((d,.o (.v (.map (some g))))::T) ((n,.ob g (Np []))::L) (n+1) F D):OJs X o T L n F D k K:=by
 intro Q hQ Φ hΦ a w hr;refine Oper.wpIn_of_run (by simp[Cw,ho]) ?_;have e1:(execOp a.eval o).run X.P w=.ok (.value (.map (some w.heap.size))) (w.alloc (Np [])):=by
  simp[execOp,ho,Instr.makeMap,Np,mE]
 rw[e1];refine hΦ _ _ _ _ _ (h w.heap.size) _ _ ((hr.newOb (Np [])).put (u:=.o (.v (.map (some w.heap.size)))) (λ_ _ _=>I) (by simp[E7,hd,hdk]))
end
def Hl (p:α->Bool) (xs:List α):Int:=match xs.findIdx? p with|some i=>(i:Int)|none=> -1
variable {p:α->Bool} {xs:List α}
theorem No {x:α} (hno:∀(j:Nat) (x:α),j<k->xs[j]? =some x->p x=false) (hx:xs[k]? =some x) (hp:p x=true):Hl p xs=k:=by
 have:xs.findIdx? p=some k:=by
  rw[Ii];obtain⟨hkl,hxe⟩:=Aa.1 hx;refine⟨hkl,by rw[hxe,hp],λj hj=>?_⟩;rw[hno j _ hj (A8 tqO)];simp
 unfold Hl;rw[this]
theorem Mg (hno:∀(j:Nat) (x:α),xs[j]? =some x->p x=false):Hl p xs= -1:=by
 have:xs.findIdx? p=none:=by
  rw[List.findIdx?_eq_none_iff];intro x hx;obtain⟨j,hj⟩:=B6.1 hx;exact hno j x hj
 unfold Hl;rw[this]
theorem Hq:decide (0<=Hl p xs)=xs.any p:=by
 unfold Hl;cases h:xs.findIdx? p with
 |none=>
  rw[List.findIdx?_eq_none_iff] at h;have:xs.any p=false:=Gy.2 λx hx=>by simp[h x hx]
  rw[this];rfl
 |some i=>
  obtain⟨hi,hp,_⟩:=Ii.1 h;have:xs.any p=true:=Jr.2 ⟨_,Ua hi,hp⟩;rw[this];simp
theorem B1 {a:Option Addr} {m cap:Nat} {x:α} (hx:xs[i]? =some x) (A:Nat->Prop) (w:World) (h:(slF enc k (.slice a m cap) xs).h A w):∃b off,a=some ⟨b,off,none⟩:=
 Aia h (by intro e;rw[e] at hx;simp at hx)
theorem SD {α:Type} {enc:α->List Value} {k:Nat} (hk:∀x,(enc x).length=k):∀ {l:List α} {i j:Nat} {x:α} {u:Value},l[i]? =some x->(enc x)[j]? =some u->(l.flatMap enc)[i*k+j]? =some u
 | [],i,j,x,u,h,_=>by simp at h
 |y::l,0,j,x,u,h,hu=>by
  simp only[Lw,B7] at h;subst h;have hj:=(Aa.1 hu).1;rw[E1,Nat.zero_mul,Bl,Eo hj];exact hu
 |y::l,i+1,j,x,u,h,hu=>by
  rw[E1,Dp (by rw[hk,Id];omega),hk,show (i+1)*k+j- k=i*k+j by rw[Id];omega];exact SD hk (by simpa using h) hu
theorem Aib {b:Nat} {t:TypeId} {cells:List Value} {m:Nat} (hm:m=xs.length) (henc:∀x,(enc x).length=k) (hc:cells=xs.flatMap enc) {A:Nat->Prop} (h:(B9 b cells t).h A w):(slF enc k (.slice (some ⟨b,0,none⟩) m m) xs).h A w:=by
 subst hm;subst hc;refine⟨some ⟨b,0,none⟩,xs.length,I,⟨Ak _,λe=>by cases e⟩,.inr ⟨b,0,I,h.1,λi x hx j u hu=>?_⟩⟩;have:=Iu (o:=0+i*k+j) h.2;rw[this,Bl];exact SD henc hx hu
theorem Cm.facts {P:Program} {g:FuncId} {args:List Value} {mu:List MB} {F0 F0':List Fact} {Out:Gx} (h:Cm P g args mu F0' Out) (hF:∀A w,(∀f∈F0,f.h A w)->∀f∈F0',f.h A w):Cm P g args mu F0 Out:=
 λA w h1 h2 h3 h4=>h A w h1 h2 h3 (hF A w h4)
theorem OC {b:Nat} {cs:List Value} {t:TypeId} (A:Nat->Prop) (w:World) (h:(B9 b cs t).h A w):∀(j:Nat) (u:Value),cs[j]? =some u->w.cell? ⟨b,0+j,none⟩=some u:=λj u hu=>by rw[Bl];exact(Iu (o:=j) h.2).trans hu
theorem Du {b off m cap:Nat} {x:α} (hx:xs[i]? =some x) (A:Nat->Prop) (w:World) (h:(slF enc k (.slice (some ⟨b,off,none⟩) m cap) xs).h A w):∀(j:Nat) (u:Value),(enc x)[j]? =some u->w.cell? ⟨b,off+i*k+j,none⟩=some u:=λ_ _ hu=>Eg hx hu A w h
section
variable {X:Fx} {T:TE} {L:LE} {n:Nat} {F:List Fact} {D:DF} {K:KK} {k:KS} {o:Oper}
theorem JO {t:TypeId} {x:Operand} {v:Value} (hc:X.P.concrete t=true) (ho:o.op=.makeInterface t x) (hx:evS T x=some (.o (.v v))):Yd X o T L F (.o (.v (.iface t v))):=by
 refine⟨by simp[Cw,ho],λA ρ a w h0=>?_⟩;have e1:=h0.ev hx;simp only[TV.den,SV.den] at e1;simp[execOp,ho,e1,run_makeInterface w t v hc,TV.den,SV.den]
end
def CL (t:TypeId) (b:Bool) (e:Int):Gx:=λr _ F1=>((b=true/\r=.returned (.tuple #[]))\/(b=false/\r=.panicked [{v:=.iface t (.int .i64 e),recovered:=false}]))/\F1=[]
end Go.Proofs.YtjofafbkkpdgbaaGreat
