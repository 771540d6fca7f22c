/- A part of the proof of LockOpens: rules and contracts. No condition. -/
import Derived.Test.YtjofafbkkpdgbaaGreatPnal
set_option maxRecDepth 100000
set_option maxHeartbeats 4000000
set_option linter.all false
namespace Go.Proofs.YtjofafbkkpdgbaaGreat
open Go.Proofs.Tryz
open Go.RowKit Go.Shelf
def SR (m:Nat) (J:(Nat->Prop)->World->Prop) (hJ:∀O V V',J O V->Chg O V V'->J (P6 O V V') V') (Z:Nat->Prop):Fact where
 h A w:=m<=w.heap.size/\∃O,J O w/\(∀b,O b->m<=b/\b<w.heap.size)/\(∀b,Z b->O b)/\∀b,b<w.heap.size->O b\/A b
 ok:=by
  rintro A A' w w' hA hw hg ⟨h1,O,h2,h3,h5,h4⟩;refine⟨Bf h1 hg.size,P6 O w w',hJ O w w' h2 ⟨hg,λb hb hO=>hw b ((h4 b hb).resolve_left hO)⟩,?_,λb hb=>.inl (h5 b hb),?_⟩
  ·rintro b (hb|hb)
   ·exact⟨(h3 b hb).1,Aw (h3 b hb).2 hg.size⟩
   ·omega
  ·intro b hb;by_cases hlt:b<w.heap.size
   ·rcases h4 b hlt with h|h
    ·exact .inl (.inl h)
    ·exact .inr (hA b h)
   ·exact .inl (.inr ⟨tqO,hb⟩)
section
variable {P:Program} {α:Type} {enc:α->List Value} {xs:List α}
def It.jFZ (S:It P enc xs) (Z:Nat->Prop) (k:Nat):Fact:=SR S.W.heap.size (S.J k) (S.hJ k) Z
def It.jxFZ (S:It P enc xs) (Z:Nat->Prop) (k:Nat):Fact:=SR S.W.heap.size (S.Jx k) (S.hJx k) Z
def It.keF (S:It P enc xs) (w0:World):Fact where
 h A w:=∀b,S.A b->A b/\w.heap[b]? =w0.heap[b]?
 ok:=λhA hw _ h b hb=>⟨hA b (h b hb).1,(hw b (h b hb).1).trans (h b hb).2⟩
def It.Xr (S:It P enc xs) (tab:Tab) (ok:tab.Ok P) (kk l:Nat) (w0:World) (A0:Nat->Prop) (M N:List Nat):Fx:=⟨P,tab,ok,some l,S.n- 1- 1,kk,w0,A0,M,N⟩
theorem Grow.trans {a b c:World} (h:Grow a b) (k:Grow b c):Grow a c:=⟨k.os.trans h.os,k.tape.trans h.tape,k.output.trans h.output,Bf h.size k.size⟩
theorem WT {F F':Fence} (hF:F= {Fence.wide with round:=F.round}) (hF':F'= {Fence.wide with round:=F'.round}) {n n':Nat} {l:Nat} {f:FuncId} {tmps:Array Value} {assign body:Code} {w:World} {R:Ending->World->Prop} (h:RoundIn F n P l f tmps assign body w R):RoundIn F' n' P l f tmps assign body w R:=by
 rw[hF] at h;rw[hF'];exact⟨trivial,λc cs _=>h.2 c cs (room_wide _)⟩
variable {S:It P enc xs}
theorem Aa1 {tab:Tab} {ok:tab.Ok P} {kk l:Nat} {w0:World} {A0:Nat->Prop} {M N:List Nat} {Z:Nat->Prop} {o:Oper} {T:TE} {L:LE} {n:Nat} {F:List Fact} {D:DF} {kq:KS} {K:KK} {cl:Call} {f:Operand} {us:List TV} {x:α} (k:Nat) (hM:∀b,b<w0.heap.size->b ∉ M->Z b) (ho:o.op=.call cl) (hc:cl.callee=.value f) (hf:evS T f=some (.o (.v (.func (.yield S.l) #[] #[]))))
  (hus:Rg T cl.args.toList=some us) (hx:xs[k]? =some x) (henc:∀ρ,us.map (TV.den ρ)=enc x) (hj:S.jFZ Z k∈F) (hke:S.keF w0∈F)
  (h1:match E7 kk o.dst (.o (.v (.bool true))) T with|some T'=>kq T' L n [S.jFZ Z (k+1),S.keF w0] D|none=>False)
  (h2:match E7 kk o.dst (.o (.v (.bool false))) T with|some T'=>kq T' L n [S.jxFZ Z (k+1)] D|none=>False):OJs (S.Xr tab ok kk l w0 A0 M N) o T L n F D kq K:=by
 intro Q hQ Φ hΦ a w hr;obtain⟨hkb,ρ0,A,hr0⟩:=hr;have h0:=hr0 ρ0 λ_ _=>I;obtain⟨hm,O,hJ,hO,hZO,hcov⟩:=h0.a3 _ hj;have hk0:=h0.a3 _ hke;obtain⟨fn',tmps',as',bd',hy,hR⟩:=S.hY k x O w hx hJ hm hO;have e1:=Y3 h0.toVw hus;have e2:cl.args.map a.eval=(enc x).toArray:=by apply Cn;rw[Di,e1,henc]
 have e3:=h0.ev hf;simp only[TV.den,SV.den] at e3;have run:(execOp a.eval o).run P w=.ok (.round S.l fn' tmps' as' bd') w:=by
  simp[execOp,ho,resolve,hc,e3,Deferred.ofValue,invoke,e2,hy]
 have own:∀k e b,Ah L k=some e->e.blk ρ0 k=some b->O b/\b<w.heap.size:=by
  intro k e b hk hb;have hlt:=LC.lt (h0.lo k e hk) hb;rcases hcov b hlt with h|h
  ·exact⟨h,hlt⟩
  ·exact absurd hb ((h0.a2 b h).2 k e hk)
 have gen:∀(V':World) (Fn:List Fact) (v:Value) (T':TE),Keep O w V'->E7 kk o.dst (.o (.v v)) T=some T'->(∀f∈Fn,f.h (λb=>b<V'.heap.size/\(A0 b\/w0.heap.size<=b)/\∀k e,Ah L k=some e->e.blk ρ0 k≠some b) V')->
   Rel (S.Xr tab ok kk l w0 A0 M N) T' L n Fn D (a.put o.dst v) V':=by
  intro V' Fn v T' hK hp hFn;refine Rel.put (T:=T) (u:=.o (.v v)) ⟨hkb,ρ0,λb=>b<V'.heap.size/\(A0 b\/w0.heap.size<=b)/\∀k e,Ah L k=some e->e.blk ρ0 k≠some b,λρ hρ=>?_⟩ (λ_ _ _=>I) hp;have h3:=hr0 ρ hρ;have bk:∀k e b,Ah L k=some e->e.blk ρ k=some b->e.blk ρ0 k=some b:=λk e b hk hb=>by rw[<-LC.blk_congr (hρ k (hkb k e hk))];exact hb
  refine⟨⟨h3.tm,λk e hk=>LC.keep (w:=w) (h3.lo k e hk) λb hb=>?_,hFn⟩,h3.sz,h3.df,⟨hK.os.trans h3.kp.os,hK.tape.trans h3.kp.tape,hK.output.trans h3.kp.output,Bf h3.kp.size hK.size,λb hb hm=>?_⟩,h3.nw,h3.ds,λb hb=>hb.2.1,λb hb=>⟨hb.1,λk e hk hbk=>hb.2.2 k e hk (bk k e b hk hbk)⟩,h3.mb⟩
  ·obtain⟨g1,g2⟩:=own k e b hk (bk k e b hk hb);exact hK.keep b g2 g1
  ·rw[hK.keep b (Aw hb h3.kp.size) (hZO b (hM b hb hm))];exact h3.kp.keep b hb hm
 have cov:∀V':World,w.heap.size<=V'.heap.size->∀b,b<V'.heap.size->O b\/(b<V'.heap.size/\(A0 b\/w0.heap.size<=b)/\∀k e,Ah L k=some e->e.blk ρ0 k≠some b):=by
  intro V' hs b hb;by_cases hob:O b
  ·exact .inl hob
  ·refine .inr ⟨hb,?_,λk e hk hbk=>hob (own k e b hk hbk).1⟩;by_cases hlt:b<w.heap.size
   ·exact h0.a1 b ((hcov b hlt).resolve_left hob)
   ·exact .inr (Bf h0.kp.size (Uc hlt))
 refine Oper.wpIn_of_run (by simp[Cw,ho]) ?_;show o.uponIn _ _ _ _ _ _ ((execOp a.eval o).run P w)
 rw[run];refine⟨λhd=>by simp[Fx.fe,Fence.wide] at hd,WT (F:=Fence.wide) I I (hR.mono ?_)⟩;rintro e V' (⟨rfl,hJ',hK⟩|⟨rfl,hJ',hK⟩)
 ·split at h1
  ·rename_i T' hp;refine hΦ _ _ _ _ _ h1 _ V' (gen V' _ _ T' ⟨hK.toGrow,λb hb hO=>hK.keep b hb (.inr hO)⟩ hp ?_);intro f hf;simp only[Ap,Bw,Ed] at hf;rcases hf with rfl|rfl
   ·exact⟨Bf hm hK.size,O,hJ',λb hb=>⟨(hO b hb).1,Aw (hO b hb).2 hK.size⟩,hZO,cov V' hK.size⟩
   ·intro b hb;obtain⟨g1,g2⟩:=hk0 b hb;obtain⟨g3,g4⟩:=h0.a2 b g1;exact⟨⟨Aw g3 hK.size,h0.a1 b g1,g4⟩,(hK.keep b g3 (.inl hb)).trans g2⟩
  ·exact h1.elim
 ·split at h2
  ·rename_i T' hp;refine hΦ _ _ _ _ _ h2 _ V' (gen V' _ _ T' hK hp ?_);intro f hf;cases Bc.1 hf;exact⟨Bf hm hK.size,O,hJ',λb hb=>⟨(hO b hb).1,Aw (hO b hb).2 hK.size⟩,hZO,cov V' hK.size⟩
  ·exact h2.elim
def KV (S:It P enc xs) (B:Nat) (ro:Loop) (ty:TypeId):LE:=[(0,.ob (B+1) (.loop ro)),(1,.ob B (.deferred (some []))),(2,.c [.v (.func (.yield S.l) #[] #[])] ty)]
theorem CM {B:Nat} {ro:Loop} {ty:TypeId} {k:Nat} {e:LC} (h:Ah (KV S B ro ty) k=some e):(k=0/\e=.ob (B+1) (.loop ro))\/(k=1/\e=.ob B (.deferred (some [])))\/(k=2/\e=.c [.v (.func (.yield S.l) #[] #[])] ty):=by
 unfold KV at h;rw[As] at h;split at h
 ·cases h;exact .inl ⟨by assumption,I⟩
 rw[As] at h;split at h
 ·cases h;exact .inr (.inl ⟨by assumption,I⟩)
 rw[As] at h;split at h
 ·cases h;exact .inr (.inr ⟨by assumption,I⟩)
 ·cases h
def An6 (S:It P enc xs) (Z:Nat->Prop) (B:Nat) (bu:Loop) (ty:TypeId) (k id0:Nat) (w0:World):KK:=λe _ L _ F _=>match e with
 | .normal=>S.jFZ Z (k+1)∈F/\S.keF w0∈F/\Ah L 0=some (.ob (B+1) (.loop bu))/\Ah L 1=some (.ob B (.deferred (some [])))/\Ah L 2=some (.c [.v (.func (.yield S.l) #[] #[])] ty)
 | .exit id=>id=id0/\S.jxFZ Z (k+1)∈F/\Ah L 0=some (.ob (B+1) (.loop bu))/\Ah L 1=some (.ob B (.deferred (some [])))/\Ah L 2=some (.c [.v (.func (.yield S.l) #[] #[])] ty)
 |_=>False
open Classical in
theorem Agc {tab:Tab} {ok:tab.Ok P} {kk:Nat} {T:TE} {L:LE} {n:Nat} {F fs:List Fact} {D:DF} {K:KK} {enc':α->List Value} {gf:Nat} {g:Operand} {ps:Array Tmp} {assign body:Code} {cj:List Value} {tj ty:TypeId} (j y ys id0:Nat)
  (hseq:∀b,Y2 P gf [.pointer (some ⟨b,0,none⟩)] (B9 b cj tj::fs) enc' xs) (hfs:∀f∈fs,S.inF f∈F) {f0:Fact} (hf0:S.inF f0∈F) (hj:S.jF 0∈F) (hg:evS T g=some (.o (.f (.func gf) [] [.p j 0]))) (hLj:Ah L j=some (.c (cj.map SV.v) tj)) (hLy:Ah L y=some (.c [.v (.func (.yield S.l) #[] #[])] ty)) (hjy:j≠y)
  (hT:Ah T ys=some (.o (.p y 0))) (hfn:Ah tab.fn gf=some ()) (hps:∀x,(enc' x).length=ps.size) (hpk:(ps.toList.all λp=>Nat.blt p kk)=true) (hD:D=λ_=>[])
  (hround:∀k x,xs[k]? =some x->∀(Z:Nat->Prop) (B:Nat) (w0:World) (A0:Nat->Prop) (M N:List Nat) (ro bu:Loop),N.length=3->(∀b,b<w0.heap.size->b ∉ M->Z b)->
   sx (S.Xr tab ok kk (B+1) w0 A0 M N) assign (TW ps.toList (enc' x) [(ys,.o (.p 2 0))]) (KV S B ro ty) 3 [S.jFZ Z k,S.keF w0] (λ_=>[]) (λe T' L' n' F' D'=>match e with
    | .normal=>Ah L' 0=some (.ob (B+1) (.loop ro))/\sx (S.Xr tab ok kk (B+1) w0 A0 M N) body T' ((0,.ob (B+1) (.loop bu))::L') n' F' D' (An6 S Z B bu ty k id0 w0)
    |_=>False))
  (hdone:K .normal [] [(n,T5)] (n+1) [S.jF xs.length] λρ=>[Nb (ρ n)])
  (hstop:∀k,0<k->k<=xs.length->sx (S.X tab ok kk) (.exit id0) [] [(n,T5)] (n+1) [S.jxF k] (λρ=>[Nb (ρ n)]) K):CJs (S.X tab ok kk) (.rangeFunc g ps assign body) T L n F D K:=by
 intro Q hQ a w hr0;have eg':∀args w,(callFunc gf args).run P w=.ok (.enter gf args) w:=Qh (ok.fn _ _ hfn);obtain⟨A,ρ,h0⟩:=hr0.one;obtain⟨hm0,O0,hJ0,hO0,hcov0⟩:=h0.a3 _ hj;have hdf:a.defers=[]:=by rw[h0.df,hD]
 have hgv:a.eval g=.func (.func gf) #[] #[.pointer (some ⟨ρ j,0,none⟩)]:=h0.ev hg;have hjb:w.heap[ρ j]? =some (.cells cj.toArray tj (0,0)):=by have:=h0.lo j _ hLj;simpa [LC.holds,Ji] using this
 have hyb:w.heap[ρ y]? =some (.cells #[.func (.yield S.l) #[] #[]] ty (0,0)):=by have:=h0.lo y _ hLy;simpa [LC.holds,C4,SV.den] using this
 have hjl:=Dr hjb;have hyl:=Dr hyb;have hjO:O0 (ρ j):=(hcov0 _ hjl).resolve_right λh=>(h0.a2 _ h).2 j _ hLj I;have hyO:O0 (ρ y):=(hcov0 _ hyl).resolve_right λh=>(h0.a2 _ h).2 y _ hLy I;have hne:ρ j≠ρ y:=λe=>hjy (h0.ds j y _ _ (ρ y) hLj hLy (by simp[LC.blk,e]) I);have hys:a.tmps.getD ys undef=.pointer (some ⟨ρ y,0,none⟩):=h0.tm ys _ hT;have hsz:=h0.sz;obtain⟨B2,hB2⟩:∃b,b=ρ j:=⟨_,I⟩;obtain⟨Y,hY⟩:∃b,b=ρ y:=⟨_,I⟩;rw[<-hB2] at hgv hjb hjl hjO hne;rw[<-hY] at hyb hyl hyO hne hys;refine Wr λfn hfn'=>?_;obtain⟨rc,hrc⟩:∃rc:LoopState->Option Code->Loop,rc=λst pe=> {state:=st,pending:=pe,fn,tmps:=a.tmps,params:=ps,assign,body,defers:=w.heap.size}:=⟨_,I⟩;obtain⟨V,hV⟩:∃V,V=(w.alloc (.deferred (some []))).alloc (.loop (rc .ready none)):=⟨_,I⟩;have hs:V.heap.size=w.heap.size+1+1:=by rw[hV];simp
 have hL:V.heap[w.heap.size+1]? =some (.loop (rc .ready none)):=by
  rw[hV];have:=E6 (w.alloc (.deferred (some []))) (.loop (rc .ready none));rwa[Uf] at this
 have hDf:V.heap[w.heap.size]? =some (.deferred (some [])):=by
  rw[hV];exact(Gw _ _ _ tqS).trans (E6 w _)
 have hwV:Below w.heap.size w V:=by rw[hV];exact((Ga _ w).alloc (Ak _) _).alloc tqS _
 obtain⟨B,hB⟩:∃B,B=w.heap.size:=⟨_,I⟩;rw[<-hB] at hL hDf hs hjl hyl;have hmB:S.W.heap.size<=B:=by rw[hB];exact hm0
 have hlpn:∀st pe,(rc st pe).params=ps:=λst pe=>by rw[hrc]
 let Jc:((Nat->Prop)->World->Prop)->Loop->(Nat->Prop)->World->Prop:=λJ lp Oi U=>U.heap[B+1]? =some (.loop lp)/\U.heap[B]? =some (.deferred (some []))/\(∀b,Oi b->B+2<=b)/\Grow S.W U/\
  ∃O,J O U/\(∀b,O b->S.W.heap.size<=b/\b<U.heap.size)/\(∀b,Oi b->O b)/\O B/\O (B+1)/\O B2/\O Y/\U.heap[Y]? =some (.cells #[.func (.yield S.l) #[] #[]] ty (0,0))
 have stab:∀(J:(Nat->Prop)->World->Prop) (hJ:∀O V V',J O V->Chg O V V'->J (P6 O V V') V') lp Oi U U',Jc J lp Oi U->Chg Oi U U'->Jc J lp (P6 Oi U U') U':=by
  rintro J hJ lp Oi U U' ⟨h1,h2,h3,h4,O,h5,h6,h7,h8,h9,h10,h11,h12⟩ hch;refine⟨(hch.keep _ (Dr h1) λh=>by have:=h3 _ h;omega).trans h1,(hch.keep _ (Dr h2) λh=>by have:=h3 _ h;omega).trans h2,?_,h4.trans hch.toGrow,P6 O U U',hJ O U U' h5 ⟨hch.toGrow,λb hb hO=>hch.keep b hb λh=>hO (h7 b h)⟩,?_,?_,.inl h8,.inl h9,.inl h10,.inl h11,(hch.keep _ (Dr h12) λh=>by have:=h3 _ h;omega).trans h12⟩
  ·rintro b (hb|hb)
   ·exact h3 b hb
   ·have:=Dr h1;omega
  ·rintro b (hb|hb)
   ·exact⟨(h6 b hb).1,Aw (h6 b hb).2 hch.size⟩
   ·have:=h4.size;omega
  ·rintro b (hb|hb)
   ·exact .inl (h7 b hb)
   ·exact .inr hb
 have putB:∀(U:World) (lp lp':Loop),U.heap[B+1]? =some (.loop lp)->Grow U (U.putObj (B+1) (.loop lp'))/\(∀b,b≠B+1->(U.putObj (B+1) (.loop lp')).heap[b]? =U.heap[b]?)/\(U.putObj (B+1) (.loop lp')).heap[B+1]? =some (.loop lp'):=λU lp lp' h=>
  ⟨⟨I,I,I,tqS⟩,λb hb=>Gb hb,Oz (Dr h)⟩
 have Alt:∀b,S.A b->b<B/\b≠Y:=by
  intro b hb;have hAb:=(h0.a3 _ hf0).1 b hb;obtain⟨g1,g2⟩:=h0.a2 b hAb;exact⟨by rw[hB];exact g1,λe=>g2 y _ hLy (by rw[e,hY];rfl)⟩
 have round:∀(k:Nat) (x:α) (Oi:Nat->Prop) (W1:World),xs[k]? =some x->Jc (S.J k) (rc .ready none) Oi W1->V.heap.size<=W1.heap.size->(∀b,Oi b->V.heap.size<=b/\b<W1.heap.size)->YieldAt Fence.wide (S.n- 1- 1) P (B+1) (enc' x).toArray W1 λe V'=>
   (e=.returned (.bool true)/\Jc (S.J (k+1)) (rc .ready none) Oi V'/\Keep (λb=>(S.A b\/b=B2)\/Oi b) W1 V')\/(e=.returned (.bool false)/\Jc (S.Jx (k+1)) (rc .done (some (.exit id0))) Oi V'/\Keep Oi W1 V'):=by
  rintro k x Oi W1 hx ⟨h1,h2,h3,h4,O,h5,h6,h7,h8,h9,h10,h11,h12⟩ hVs hOb;have hy:=run_yield (P:=P) (args:=(enc' x).toArray) h1 (by rw[hlpn];simp[hps x]);refine⟨fn,_,assign,body,by rw[hrc] at hy;exact hy,roundIn_of_wpIn hfn' ?_⟩
  let Z:Nat->Prop:=λb=>Oi b\/b=B2
  let A0:Nat->Prop:=λb=>b<W1.heap.size/\b≠B/\b≠B+1/\b≠Y
  let M:List Nat:=(List.range W1.heap.size).filter λb=>decide (¬Z b)
  have hMm:∀b,b∈M↔b<W1.heap.size/\¬Z b:=by intro b;simp only[M,De,Hc,Aq]
  have hM:∀b,b<W1.heap.size->b ∉ M->Z b:=λb hb h=>Classical.byContradiction λhz=>h ((hMm b).2 ⟨hb,hz⟩);have nz1:¬Z (B+1):=by rintro (h|h);exact absurd (h3 _ h) tqO;omega
  have nz2:¬Z B:=by rintro (h|h);exact absurd (h3 _ h) tqO;omega
  have nz3:¬Z Y:=by rintro (h|h);exact absurd (h3 _ h) tqO;exact hne h.symm
  have l1:=Dr h1;have l2:=Dr h2;have l3:=Dr h12;obtain⟨bu,hbu⟩:∃bu:Loop,bu= {rc .ready none with state:=.busy}:=⟨_,I⟩;have hrel:Rel (S.Xr tab ok kk (B+1) W1 A0 M [B+1,B,Y]) [(ys,.o (.p 2 0))] (KV S B (rc .ready none) ty) 3 [S.jFZ Z k,S.keF W1] (λ_=>[]) {tmps:=a.tmps,defers:=[]} W1:=by
   refine⟨λk e hk=>?_,λi=>if i=0 then B+1 else if i=1 then B else Y,A0,λρ' hρ=>?_⟩
   ·rcases CM hk with ⟨rfl,_⟩|⟨rfl,_⟩|⟨rfl,_⟩<;>omega
   have r2:ρ' 2=Y:=hρ 2 tqO;have bl:∀k e b,Ah (KV S B (rc .ready none) ty) k=some e->e.blk ρ' k=some b->(k=0/\b=B+1)\/(k=1/\b=B)\/(k=2/\b=Y):=by
    intro k e b hk hb;rcases CM hk with ⟨rfl,rfl⟩|⟨rfl,rfl⟩|⟨rfl,rfl⟩
    ·simp[LC.blk] at hb;exact .inl ⟨I,hb.symm⟩
    ·simp[LC.blk] at hb;exact .inr (.inl ⟨I,hb.symm⟩)
    ·simp[LC.blk,r2] at hb;exact .inr (.inr ⟨I,hb.symm⟩)
   refine⟨⟨λt u ht=>?_,λk e hk=>?_,λf hf=>?_⟩,hsz,I,Kp.refl _ _,λk e b hk hb=>.inl ((hMm b).2 ?_),λk k' e e' b hk hk' hb hb'=>?_,λb hb=>.inl hb,λb hb=>⟨hb.1,λk e hk hbk=>?_⟩,λi b hi=>?_⟩
   ·rw[As] at ht;split at ht
    ·rename_i e1;cases ht;subst e1;show a.tmps.getD t undef=_
     rw[hys];simp[TV.den,SV.den,r2]
    ·cases ht
   ·rcases CM hk with ⟨rfl,rfl⟩|⟨rfl,rfl⟩|⟨rfl,rfl⟩
    ·exact h1
    ·exact h2
    ·show W1.heap[ρ' 2]? =_
     rw[r2,h12];simp[C4,SV.den]
   ·simp only[Ap,Bw,Ed] at hf;rcases hf with rfl|rfl
    ·refine⟨h4.size,O,h5,h6,?_,λb hb=>?_⟩
     ·rintro b (hb|rfl)
      ·exact h7 b hb
      ·exact h10
     ·by_cases e1:b=B
      ·subst e1;exact .inl h8
      by_cases e2:b=B+1
      ·subst e2;exact .inl h9
      by_cases e3:b=Y
      ·subst e3;exact .inl h11
      exact .inr ⟨hb,e1,e2,e3⟩
    ·intro b hb;obtain⟨a1,a2⟩:=Alt b hb;exact⟨⟨tqO,tqO,tqO,a2⟩,I⟩
   ·rcases bl k e b hk hb with ⟨_,rfl⟩|⟨_,rfl⟩|⟨_,rfl⟩
    ·exact⟨l1,nz1⟩
    ·exact⟨l2,nz2⟩
    ·exact⟨l3,nz3⟩
   ·rcases bl k e b hk hb with ⟨rfl,e1⟩|⟨rfl,e1⟩|⟨rfl,e1⟩<;>rcases bl k' e' b hk' hb' with ⟨rfl,e2⟩|⟨rfl,e2⟩|⟨rfl,e2⟩<;>first|rfl|(exfalso;omega)
   ·rcases bl k e b hk hbk with ⟨_,rfl⟩|⟨_,rfl⟩|⟨_,rfl⟩
    ·exact hb.2.2.1 I
    ·exact hb.2.1 I
    ·exact hb.2.2.2 I
   ·match i,hi with
    |0,hi=>cases hi;exact hρ 0 tqO
    |1,hi=>cases hi;exact hρ 1 tqO
    |2,hi=>cases hi;exact r2
  refine Ht (hround k x hx Z B W1 A0 M [B+1,B,Y] (rc .ready none) bu I hM) _ ?_ _ _ (LG (X:=S.Xr tab ok kk (B+1) W1 A0 M [B+1,B,Y]) (a:= {tmps:=a.tmps,defers:=[]}) hpk hrel);intro e Ta La na Fa Da hK aa Wa hra;cases e with
  |normal=>
   obtain⟨hK0,hK1⟩:=hK;obtain⟨A1,ρ1,g1⟩:=hra.one;have l2a:Wa.heap[B+1]? =some (.loop (rc .ready none)):=g1.lo 0 _ hK0;refine⟨_,run_beginRound l2a (by rw[hrc]),?_⟩;obtain⟨q1,q2,q3⟩:=putB Wa _ {rc .ready none with state:=.busy} l2a;have hrb:=hra.ob hK0 (w':=Wa.putObj (B+1) (.loop {rc .ready none with state:=.busy})) (o':=.loop bu) (by rw[hbu];exact q3) ⟨q1.os,q1.tape,q1.output,q1.size,λb _ hb=>q2 b λe=>hb (by rw[e])⟩;refine Ht hK1 _ ?_ _ _ hrb;intro e Tc Lc nc Fc Dc hK2 ac Wc hrc2;obtain⟨A2,ρ2,g2⟩:=hrc2.one;have kp:=g2.kp;have fin:∀(jump:Option Code) (J:(Nat->Prop)->World->Prop) (hJ:∀O V V',J O V->Chg O V V'->J (P6 O V V') V'),Ah Lc 0=some (.ob (B+1) (.loop bu))->Ah Lc 1=some (.ob B (.deferred (some [])))->Ah Lc 2=some (.c [.v (.func (.yield S.l) #[] #[])] ty)->(SR S.W.heap.size J hJ Z).h A2 Wc->
     ∃Wd,(Instr.endRound (B+1) jump).run P Wc=.ok (.bool jump.isNone) Wd/\Jc J (rc (if jump.isNone then .ready else .done) jump) Oi Wd/\Keep Z W1 Wd/\∀b,b≠B+1->Wd.heap[b]? =Wc.heap[b]?:=by
    intro jump J hJ hl0 hl1 hl2 hfz;have c0:Wc.heap[B+1]? =some (.loop bu):=g2.lo 0 _ hl0;have c1:Wc.heap[B]? =some (.deferred (some [])):=g2.lo 1 _ hl1;have r2:ρ2 2=Y:=g2.mb 2 Y I;have c2:Wc.heap[Y]? =some (.cells #[.func (.yield S.l) #[] #[]] ty (0,0)):=by have:=g2.lo 2 _ hl2;simpa [LC.holds,C4,SV.den,r2] using this
    have e1:=run_endRound (P:=P) jump c0;rw[hbu,hrc] at e1;obtain⟨p1,p2,p3⟩:=putB Wc _ (rc (if jump.isNone then .ready else .done) jump) c0;obtain⟨f1,O2,f2,f3,f4,f5⟩:=hfz;have ow:∀i e b,Ah Lc i=some e->e.blk ρ2 i=some b->O2 b:=λi e b hi hb=>(f5 b (LC.lt (g2.lo i e hi) hb)).resolve_right λh=>(g2.a2 b h).2 i e hi hb;have oB1:=ow 0 _ (B+1) hl0 I;refine⟨_,by rw[hrc];exact e1,⟨p3,(p2 _ tqO).trans c1,h3,h4.trans (kp.grow.trans p1),P6 O2 Wc _,hJ _ _ _ f2 ⟨p1,λb _ hb=>p2 b λe=>hb (by rw[e];exact oB1)⟩,?_,λb hb=>.inl (f4 b (.inl hb)),.inl (ow 1 _ B hl1 I),.inl oB1,.inl (f4 B2 (.inr I)),.inl (ow 2 _ Y hl2 (by simp[LC.blk,r2])),(p2 _ (by rintro rfl;rw[c0] at c2;cases c2)).trans c2⟩,⟨⟨?_,?_,?_,?_⟩,λb hb hz=>?_⟩,p2⟩
    ·rintro b (hb|hb)
     ·exact⟨(f3 b hb).1,Aw (f3 b hb).2 p1.size⟩
     ·omega
    ·exact p1.os.trans kp.os
    ·exact p1.tape.trans kp.tape
    ·exact p1.output.trans kp.output
    ·exact Bf kp.size p1.size
    ·have hbm:b ∉ M:=λh=>((hMm b).1 h).2 hz;rw[p2 b λe=>nz1 (e ▸ hz)];exact kp.keep b hb hbm
   cases e with
   |normal=>
    obtain⟨k1,k2,k3,k4,k5⟩:=hK2;obtain⟨Wd,d1,d2,d3,d4⟩:=fin none (S.J (k+1)) (S.hJ (k+1)) k3 k4 k5 (g2.a3 _ k1);refine⟨_,_,d1,.inl ⟨I,d2,d3.toGrow,λb hb h=>?_⟩⟩;rcases h with (h|h)|h
    ·rw[d4 b (by have:=(Alt b h).1;omega)];exact(g2.a3 _ k2 b h).2
    ·exact d3.keep b hb (.inr h)
    ·exact d3.keep b hb (.inl h)
   |exit id=>
    obtain⟨rfl,k1,k3,k4,k5⟩:=hK2;obtain⟨Wd,d1,d2,d3,d4⟩:=fin (some (.exit id)) (S.Jx (k+1)) (S.hJx (k+1)) k3 k4 k5 (g2.a3 _ k1);exact⟨_,_,d1,.inr ⟨I,d2,d3.toGrow,λb hb h=>d3.keep b hb (.inl h)⟩⟩
   |goto l=>exact hK2.elim
   |ret=>exact hK2.elim
   |panic ch=>exact hK2.elim
   |outgrown=>exact hK2.elim
  |exit id=>exact hK.elim
  |goto l=>exact hK.elim
  |ret=>exact hK.elim
  |panic ch=>exact hK.elim
  |outgrown=>exact hK.elim
 have key:=hseq B2 {n:=S.n- 1,l:=B+1,A:=λb=>S.A b\/b=B2,J:=λk=>Jc (S.J k) (rc .ready none),Jx:=λk=>Jc (S.Jx k) (rc .done (some (.exit id0))),W:=V,hJ:=λk O V V' h hc=>stab _ (S.hJ k) _ O V V' h hc,hJx:=λk O V V' h hc=>stab _ (S.hJx k) _ O V V' h hc,hY:=round}
  (λb hb=>by
   show b<V.heap.size
   rcases hb with hb|hb
   ·have:=(Alt b hb).1;omega
   ·omega) (λf hf=>?_) ?_
 have out:∀(W':World) (lp lp2:Loop) (J:(Nat->Prop)->World->Prop) (hJ:∀O V V',J O V->Chg O V V'->J (P6 O V V') V') (Oi:Nat->Prop),Jc J lp Oi W'->
   Rel (S.X tab ok kk) [] [(n,T5)] (n+1) [Aah S.W.heap.size J hJ] (λρ=>[Nb (ρ n)]) {a with defers:=[Nb B]++a.defers} (W'.putObj (B+1) (.loop lp2)):=by
  rintro W' lp lp2 J hJ Oi ⟨h1,h2,h3,h4,O,h5,h6,h7,h8,h9,h10,h11,h12⟩;obtain⟨p1,p2,p3⟩:=putB W' lp lp2 h1;have c1:=(p2 B tqO).trans h2;have lB:=Dr c1;refine⟨λk e hk=>?_,λ_=>B,λb=>b<(W'.putObj (B+1) (.loop lp2)).heap.size/\b≠B,λρ' hρ=>?_⟩
  ·rw[As] at hk;split at hk
   ·omega
   ·cases hk
  have rn:ρ' n=B:=hρ n tqO;refine⟨⟨λt u ht=>(by cases ht),λk e hk=>?_,λf hf=>?_⟩,hsz,by show [Nb B]++a.defers=_;rw[hdf,rn];rfl,⟨?_,?_,?_,?_,λb hb hm=>absurd (Hc.2 hb) hm⟩,λk e b hk hb=>?_,λk k' e e' b hk hk' hb hb'=>?_,λb hb=>?_,λb hb=>⟨hb.1,λk e hk hbk=>?_⟩,λi b hi=>(by cases hi)⟩
  ·rw[As] at hk;split at hk
   ·rename_i e1;cases hk;subst e1;show (W'.putObj (B+1) (.loop lp2)).heap[ρ' k]? =_
    rw[rn];exact c1
   ·cases hk
  ·cases Bc.1 hf;refine⟨(h4.trans p1).size,P6 O W' _,hJ _ _ _ h5 ⟨p1,λb _ hb=>p2 b λe=>hb (by rw[e];exact h9)⟩,?_,λb hb=>?_⟩
   ·rintro b (hb|hb)
    ·exact⟨(h6 b hb).1,Aw (h6 b hb).2 p1.size⟩
    ·have:=h4.size;omega
   ·by_cases e1:b=B
    ·subst e1;exact .inl (.inl h8)
    ·exact .inr ⟨hb,e1⟩
  ·exact(h4.trans p1).os
  ·exact(h4.trans p1).tape
  ·exact(h4.trans p1).output
  ·exact(h4.trans p1).size
  ·rw[As] at hk;split at hk
   ·rename_i e1;cases hk;subst e1;simp only[T5,LC.blk,B7,rn] at hb;subst hb;exact .inr hmB
   ·cases hk
  ·rw[As] at hk hk';split at hk
   ·split at hk'
    ·omega
    ·cases hk'
   ·cases hk
  ·by_cases hlt:b<S.W.heap.size
   ·exact .inl hlt
   ·exact .inr (Uc hlt)
  ·rw[As] at hk;split at hk
   ·rename_i e1;cases hk;subst e1;simp only[T5,LC.blk,B7,rn] at hbk;exact hb.2 hbk.symm
   ·cases hk
 ·refine⟨B+1,[Nb B],V,{target:=.fn (.func gf) #[.pointer (some ⟨B2,0,none⟩)],args:= #[.func (.yield (B+1)) #[] #[]]},V,gf,#[.func (.yield (B+1)) #[] #[]]++ #[.pointer (some ⟨B2,0,none⟩)],V,?_,?_,λ_ _=>trivial,?_,λh=>by simp[Fx.fe,Fence.wide] at h,?_⟩
  ·rw[hV,hrc,hB];exact run_enterLoop_outer _ _ _ _ _
  ·simp only[resolve,hgv];simp[go_sem]
  ·simp[invoke,go_sem];exact eg' _ _
  ·refine key.mono ?_;rintro e W' ⟨⟨v,rfl⟩,⟨O,hJc⟩|⟨k,O,hJc,hk0,hk1⟩⟩
   ·refine⟨none,_,by have:=run_endLoop (P:=P) hJc.1 (by rw[hrc];simp);rw[hrc] at this;exact this,?_⟩;exact hQ _ _ _ _ _ _ hdone _ _ (out W' _ _ (S.J xs.length) (S.hJ xs.length) O hJc)
   ·refine⟨some (.exit id0),_,by have:=run_endLoop (P:=P) hJc.1 (by rw[hrc];simp);rw[hrc] at this;exact this,?_⟩;exact Ht (hstop k hk0 hk1) Q hQ _ _ (out W' _ _ (S.Jx k) (S.hJx k) O hJc)
 ·rcases Ap.1 hf with rfl|hf
  ·exact⟨.inr I,(hwV.block B2 (by rw[<-hB];exact hjl)).trans hjb⟩
  ·obtain⟨g1,g2⟩:=h0.a3 _ (hfs f hf);exact f.ok (w:=w) (λb hb=>.inl hb) (λb hb=>hwV.block b (by rw[<-hB];exact(Alt b hb).1)) ⟨hwV.os,hwV.tape,hwV.output,hwV.size⟩ g2
 ·have gw:Grow w V:=⟨hwV.os,hwV.tape,hwV.output,hwV.size⟩;refine⟨hL,hDf,λb h=>h.elim,h0.kp.grow.trans gw,P6 O0 w V,S.hJ 0 _ _ _ hJ0 ⟨gw,λb hb _=>hwV.block b hb⟩,?_,λb h=>h.elim,.inr ⟨tqO,tqO⟩,.inr ⟨tqO,tqO⟩,.inl hjO,.inl hyO,(hwV.block Y (by rw[<-hB];exact hyl)).trans hyb⟩;rintro b (hb|hb)
  ·exact⟨(hO0 b hb).1,Aw (hO0 b hb).2 hwV.size⟩
  ·have:=h0.kp.size;exact⟨Bf hm0 hb.1,hb.2⟩
end
theorem Agi (xs:List Hd) (i:Nat) (hi:i<xs.length) (hlen:xs.length<=1000000):
  CoW prog 322 (λv=>[v,.int .i64 (i:Int),.int .i64 ((i+1:Nat):Int)]) [] 170 3 xs.length (xs.flatMap hdL) (xs.length- 1) ((xs.eraseIdx i).flatMap hdL):=by
 refine JW (tab:=tb) (ok:=R8) (λv=>[.o (.v v),.o (.v (.int .i64 (i:Int))),.o (.v (.int .i64 ((i+1:Nat):Int)))]) func322 ntmps322 I (λ_=>I) (λ_ _=>I) ?_;intro w0 A0 a cap;refine BK 0 I tqO ?_;intro g hs hg hhl htk hmc hcm;subst hg;have hof:∃off,(if cap=i+1 then(some ⟨g,0,none⟩:Option Addr) else(some ⟨g,0,none⟩:Option Addr).map (·.add ((i+1)*3)))=some ⟨g,off,none⟩/\(i+1<xs.length->off=(i+1)*3):=by
  by_cases h:cap=i+1
  ·exact⟨0,Bi h,λh2=>by omega⟩
  ·refine⟨(i+1)*3,?_,λ_=>I⟩;rw[Ar h];simp[H5]
 obtain⟨off,ho1,ho2⟩:=hof;have hnl:=Xk Dd (xs.drop (i+1));have hnw:(hs.drop off).take ((xs.drop (i+1)).flatMap hdL).length=(xs.drop (i+1)).flatMap hdL:=by
  by_cases h:i+1<xs.length
  ·rw[ho2 h];exact MZ Dd htk (i+1)
  ·rw[Oy tqO];simp
 have hfit:i*3+((xs.drop (i+1)).flatMap hdL).length<=hs.length:=by rw[hnl,hhl,Bn];omega
 have h48:xs.length*3<=hs.length:=by rw[hhl];exact D0 _ hmc
 have hdel:=Ac6 (tl:=hs.drop (i*3+((xs.drop (i+1)).flatMap hdL).length)) Dd htk hi;have hcl:(hs.take (i*3)++(xs.drop (i+1)).flatMap hdL++hs.drop (i*3+((xs.drop (i+1)).flatMap hdL).length)).length=cap*3:=by
  rw[Az,Az,Am,Bn,hnl,Bn,hhl];omega
 refine Mb (MP (i:=i) (q:=i+1) (v:=xs.length) I I I tqO tqO tqO I I I I I I) ?_;refine A7 (λh=>?_) λ_=>?_
 ·exfalso;simp at h;omega
 have two:i+(xs.length- (i+1))=xs.length- 1:=by omega
 refine Ao [2,5,6] (.op 0<|.op 1<| .op 3<|.op 4<| .alt (.op 2<|.op 5<|.op 6<|.op 7 .z) (.op 5<|.op 2<|.op 6<|.op 7 .z)) [] [] [] [] λ_=>?_;refine⟨?_,?_⟩
 ·refine Mi (i:=i) ?_;refine tqQ<|Sq (i:=i+1) I tqO I I I I ?_;rw[ho1];refine tqQ<|W5 0 (news:=(xs.drop (i+1)).flatMap hdL) I I I I I I I (CZ (q:=0) I I hnw) (by rw[hnl,Bn]) tqO hfit Fs ?_;rw[two];refine tqQ<|Mb (Yr (i:=xs.length- 1) (q:=xs.length) I I tqO tqO I I I I I) ?_;refine O6 (Ow (j:=0) (m:=xs.length) I hmc hcm hcl I) ?_;refine Yf (i:=xs.length- 1) 0 I I I I I I I I I I tqD tqO (λhc=>?_) tqO ?_
  ·right
   rw[Ar tqO];simp[H5]
  intro cells' hcl2 htk2;rw[Gq,C1 tqO,hdel] at htk2;refine Py (Xw (j:=0) (m':=xs.length- 1) I tqO tqO) ?_;rw[htk2];exact Po 0 I I I I
 ·refine Sq (i:=i+1) I tqO I I I I ?_;rw[ho1];refine tqQ<|Mi (i:=i) ?_;refine tqQ<|W5 0 (news:=(xs.drop (i+1)).flatMap hdL) I I I I I I I (CZ (q:=0) I I hnw) (by rw[hnl,Bn]) tqO hfit Fs ?_;rw[two];refine tqQ<|Mb (Yr (i:=xs.length- 1) (q:=xs.length) I I tqO tqO I I I I I) ?_;refine O6 (Ow (j:=0) (m:=xs.length) I hmc hcm hcl I) ?_;refine Yf (i:=xs.length- 1) 0 I I I I I I I I I I tqD tqO (λhc=>?_) tqO ?_
  ·right
   rw[Ar tqO];simp[H5]
  intro cells' hcl2 htk2;rw[Gq,C1 tqO,hdel] at htk2;refine Py (Xw (j:=0) (m':=xs.length- 1) I tqO tqO) ?_;rw[htk2];exact Po 0 I I I I
theorem RP (xs:List Wt) (i:Nat) (hi:i<xs.length) (hlen:xs.length<=1000000):
  CoW prog 248 (λv=>[v,.int .i64 (i:Int),.int .i64 ((i+1:Nat):Int)]) [] 167 5 xs.length (xs.flatMap wtL) (xs.length- 1) ((xs.eraseIdx i).flatMap wtL):=by
 refine JW (tab:=tb) (ok:=R8) (λv=>[.o (.v v),.o (.v (.int .i64 (i:Int))),.o (.v (.int .i64 ((i+1:Nat):Int)))]) func248 ntmps248 I (λ_=>I) (λ_ _=>I) ?_;intro w0 A0 a cap;refine BK 0 I tqO ?_;intro g hs hg hhl htk hmc hcm;subst hg;have hof:∃off,(if cap=i+1 then(some ⟨g,0,none⟩:Option Addr) else(some ⟨g,0,none⟩:Option Addr).map (·.add ((i+1)*5)))=some ⟨g,off,none⟩/\(i+1<xs.length->off=(i+1)*5):=by
  by_cases h:cap=i+1
  ·exact⟨0,Bi h,λh2=>by omega⟩
  ·refine⟨(i+1)*5,?_,λ_=>I⟩;rw[Ar h];simp[H5]
 obtain⟨off,ho1,ho2⟩:=hof;have hnl:=Xk Ez (xs.drop (i+1));have hnw:(hs.drop off).take ((xs.drop (i+1)).flatMap wtL).length=(xs.drop (i+1)).flatMap wtL:=by
  by_cases h:i+1<xs.length
  ·rw[ho2 h];exact MZ Ez htk (i+1)
  ·rw[Oy tqO];simp
 have hfit:i*5+((xs.drop (i+1)).flatMap wtL).length<=hs.length:=by rw[hnl,hhl,Bn];omega
 have h48:xs.length*5<=hs.length:=by rw[hhl];exact D0 _ hmc
 have hdel:=Ac6 (tl:=hs.drop (i*5+((xs.drop (i+1)).flatMap wtL).length)) Ez htk hi;have hcl:(hs.take (i*5)++(xs.drop (i+1)).flatMap wtL++hs.drop (i*5+((xs.drop (i+1)).flatMap wtL).length)).length=cap*5:=by
  rw[Az,Az,Am,Bn,hnl,Bn,hhl];omega
 refine Mb (MP (i:=i) (q:=i+1) (v:=xs.length) I I I tqO tqO tqO I I I I I I) ?_;refine A7 (λh=>?_) λ_=>?_
 ·exfalso;simp at h;omega
 have two:i+(xs.length- (i+1))=xs.length- 1:=by omega
 refine Ao [2,5,6] (.op 0<|.op 1<| .op 3<|.op 4<| .alt (.op 2<|.op 5<|.op 6<|.op 7 .z) (.op 5<|.op 2<|.op 6<|.op 7 .z)) [] [] [] [] λ_=>?_;refine⟨?_,?_⟩
 ·refine Mi (i:=i) ?_;refine tqQ<|Sq (i:=i+1) I tqO I I I I ?_;rw[ho1];refine tqQ<|W5 0 (news:=(xs.drop (i+1)).flatMap wtL) I I I I I I I (CZ (q:=0) I I hnw) (by rw[hnl,Bn]) tqO hfit Ja ?_;rw[two];refine tqQ<|Mb (Yr (i:=xs.length- 1) (q:=xs.length) I I tqO tqO I I I I I) ?_;refine O6 (Ow (j:=0) (m:=xs.length) I hmc hcm hcl I) ?_;refine Yf (i:=xs.length- 1) 0 I I I I I I I I I I tqD tqO (λhc=>?_) tqO ?_
  ·right
   rw[Ar tqO];simp[H5]
  intro cells' hcl2 htk2;rw[Gq,C1 tqO,hdel] at htk2;refine Py (Xw (j:=0) (m':=xs.length- 1) I tqO tqO) ?_;rw[htk2];exact Po 0 I I I I
 ·refine Sq (i:=i+1) I tqO I I I I ?_;rw[ho1];refine tqQ<|Mi (i:=i) ?_;refine tqQ<|W5 0 (news:=(xs.drop (i+1)).flatMap wtL) I I I I I I I (CZ (q:=0) I I hnw) (by rw[hnl,Bn]) tqO hfit Ja ?_;rw[two];refine tqQ<|Mb (Yr (i:=xs.length- 1) (q:=xs.length) I I tqO tqO I I I I I) ?_;refine O6 (Ow (j:=0) (m:=xs.length) I hmc hcm hcl I) ?_;refine Yf (i:=xs.length- 1) 0 I I I I I I I I I I tqD tqO (λhc=>?_) tqO ?_
  ·right
   rw[Ar tqO];simp[H5]
  intro cells' hcl2 htk2;rw[Gq,C1 tqO,hdel] at htk2;refine Py (Xw (j:=0) (m':=xs.length- 1) I tqO tqO) ?_;rw[htk2];exact Po 0 I I I I
variable {i:Nat}
theorem Adj {α:Type} {p:α->Bool} {xs:List α} (hi:Hl p xs=((i:Nat):Int)):xs.findIdx? p=some i:=by
 unfold Hl at hi;split at hi
 ·rename_i k hk;have:k=i:=by omega
  rw[<-this];exact hk
 ·omega
theorem Vg {α:Type} {p:α->Bool} {xs:List α} (hi:Hl p xs=((i:Nat):Int)) (hu:∀(j:Nat) x,i<j->xs[j]? =some x->p x=false):xs.eraseIdx i=xs.filter λx=> !p x:=by
 obtain⟨h1,h2,h3⟩:=Ii.1 (Adj hi);rw[Ix];have e:xs=xs.take i++xs[i]::xs.drop (i+1):=by rw[<-H7 h1,Gp]
 have e1:(xs.take i).filter (λx=> !p x)=xs.take i:=by
  rw[Hi];intro x hx;obtain⟨j,hj⟩:=B6.1 hx;rw[Kz] at hj;split at hj
  ·rename_i hji;obtain⟨g1,g2⟩:=Aa.1 hj;have:=h3 j hji;rw[g2] at this;simpa using this
  ·cases hj
 have e2:(xs.drop (i+1)).filter (λx=> !p x)=xs.drop (i+1):=by
  rw[Hi];intro x hx;obtain⟨j,hj⟩:=B6.1 hx;rw[E3] at hj;rw[hu _ x tqO hj];rfl
 conv=>rhs;rw[e,Js,L7,h2,e1,e2]
 simp
variable {xs:List Hd}
theorem Tl (h:Ff xs=true):xs.all hdB=true/\(xs.Pairwise λa b=>a.site<b.site)/\Nv (Et xs)=true:=by
 simp only[Ff,Ad] at h;exact⟨h.1.1,by simpa [W9] using h.1.2,h.2⟩
variable {k:Nat}
theorem ON (h:Ff xs=true) {j:Nat} {x y:Hd} (hx:xs[j]? =some x) (hy:xs[k]? =some y) (e:x.site=y.site):j=k:=by
 have hp:=(Tl h).2.1;obtain⟨h1,e1⟩:=Aa.1 hx;obtain⟨h2,e2⟩:=Aa.1 hy;rcases Nat.lt_trichotomy j k with g|g|g
 ·have:=Ds.1 hp j k h1 h2 g;rw[e1,e2] at this;omega
 ·exact g
 ·have:=Ds.1 hp k j h2 h1 g;rw[e1,e2] at this;omega
theorem FH {xs:List Wt} (h:D5 xs=true) {j:Nat} {x y:Wt} (hx:xs[j]? =some x) (hy:xs[k]? =some y) (e:x.site=y.site):j=k:=by
 simp only[D5,Ad,Aq] at h;have h1:(xs.map Wt.site)[j]? =some y.site:=by rw[Cq,hx];simp[e]
 have h2:(xs.map Wt.site)[k]? =some y.site:=by rw[Cq,hy];rfl
 exact(List.getElem?_inj (Aa.1 h1).1 h.2).1 (h1.trans h2.symm)
def Lz (hs:List Hd) (z:Int):List Hd:=hs.filter λx=> !C9 z x
def RW (hs:List Hd) (z use:Int):Bool:=hs.any (C9 z)&&decide ((Hk (C9 z) hs).use<=use)
def IL (hs:List Hd) (z use:Int):Gx:=λe _ F1=>
 if Ff hs=false then e=.returned (.tuple #[.slice none 0 0,.int .i64 2])/\F1=[]
 else if RW hs z use=false then e=.returned (.tuple #[.slice none 0 0,.int .i64 5])/\F1=[]
 else ∃a c,e=.returned (.tuple #[.slice a (Lz hs z).length c,.int .i64 0])/\F1=[slF hdL 3 (.slice a (Lz hs z).length c) (Lz hs z)]
theorem SE {z:Int} (h:xs.any (C9 z)=false):DV (C9 z) xs=.tuple #[.agg #[.int .i64 0,.int .i64 0,.int .i64 0],.int .i64 0,.bool false]:=by
 have h0:¬0<=Hl (C9 z) xs:=by
  intro hc;rw[<-Hq] at h;simp at h;omega
 simp[DV,Hk,NA,h0,h,hdL,hdZ]
theorem Za {z:Int} (h:xs.any (C9 z)=true):∃(i:Nat) (x:Hd),Hl (C9 z) xs=(i:Int)/\xs[i]? =some x/\x.site=z/\Hk (C9 z) xs=x/\DV (C9 z) xs=.tuple #[.agg (hdL x).toArray,.int .i64 i,.bool true]:=by
 have h0:0<=Hl (C9 z) xs:=by rw[<-Hq] at h;simpa using h
 obtain⟨i,x,hi,hx,hp⟩:=Rr h0;have e1:Hk (C9 z) xs=x:=by unfold Hk;rw[Bi h0,hi];simp[D1,hx]
 exact⟨i,x,hi,hx,by simpa [C9] using hp,e1,by simp[DV,e1,NA,h,hi]⟩
theorem Adi (a:Option Addr) (cap:Nat) (xs:List Hd) (z use:Int) (hl:xs.length<=1000000):Cm prog 283 [.slice a xs.length cap,.int .i64 z,.int .i64 use] [] [slF hdL 3 (.slice a xs.length cap) xs] (IL xs z use):=by
 refine tqm [.o (.v (.slice a xs.length cap)),.o (.v (.int .i64 z)),.o (.v (.int .i64 use))] func283 ntmps283 λ_ _=>?_;refine tqc I5 (λ_=>Uj a cap xs hl) ?_;unfold IL;cases hB:Ff xs
 ·refine Aj (F0:=[]) [] [] I7 (λ_=>(Sm none 0 [] false z tqS).facts λA w h f hf=>by rw[Bc] at hf;subst hf;exact Wl A w) ?_;rintro e cs F1 _ ⟨rfl,rfl⟩;exact Al [] I2 λ_=>by rw[Bi I];exact⟨I,I⟩
 have hS:=Sm a cap xs true z hl;cases hA:xs.any (C9 z)
 ·rw[SE hA] at hS;refine tqc I5 (λ_=>hS) ?_;exact Al [] I2 λ_=>by rw[Ar tqS,Bi (by simp[RW,hA])];exact⟨I,I⟩
 obtain⟨i,x,hi,hx,hs,hf,hT⟩:=Za hA;rw[hT] at hS;refine tqc I5 (λ_=>hS) ?_;refine Ai (λh1=>?_) λh1=>?_
 ·exact Al [] I2 λ_=>by rw[Ar tqS,Bi (by simp[RW,hA,hf];omega)];exact⟨I,I⟩
 have hil:=(Aa.1 hx).1;have hdr:xs.eraseIdx i=Lz xs z:=Vg hi λj y hj hy=>by
  simp only[C9,N6];intro e;have:=ON hB hx hy (by rw[hs,e]);omega
 have hdl:(Lz xs z).length=xs.length- 1:=by rw[<-hdr,U5];simp[hil]
 refine Ik I5 (λ_=>I) (Sh a cap xs tqO) ?_;intro a1 c1;refine Af (z:=((i+1:Nat):Int)) ?_;refine Nr (args:=λ_ v=>[v,.int .i64 (i:Int),.int .i64 ((i+1:Nat):Int)]) 2 [] I I I I I I I (λ_=>I) I I (λ_=>Agi xs i hil tqO) tqS ?_;intro a2 c2;rw[hdr,<-hdl];refine Dj (D8 (j:=2) (v:=.slice a2 (Lz xs z).length c2) (m:=(Lz xs z).length) (enc:=hdL) (xs:=Lz xs z) (.inl I) Dd I I) ?_;exact Al [slF hdL 3 (.slice a2 (Lz xs z).length c2) (Lz xs z)] I2 λ_=>by rw[Ar tqS,Ar (by simp[RW,hA,hf];omega)];exact⟨_,_,I,I⟩
def J5 (q:List Wt) (z:Int):List Wt:=q.filter λx=> !(x.site == z)
def FE (q:List Wt) (z:Int):Gx:=λe _ F1=>
 if D5 q=false then e=.returned (.tuple #[.slice none 0 0,.int .i64 2])/\F1=[]
 else if decide (0<=Md q z)=false then e=.returned (.tuple #[.slice none 0 0,.int .i64 5])/\F1=[]
 else ∃a c,e=.returned (.tuple #[.slice a (J5 q z).length c,.int .i64 0])/\F1=[slF wtL 5 (.slice a (J5 q z).length c) (J5 q z)]
theorem Acd (a:Option Addr) (cap:Nat) (xs:List Wt) (z:Int) (hl:xs.length<=1000000):Cm prog 282 [.slice a xs.length cap,.int .i64 z] [] [slF wtL 5 (.slice a xs.length cap) xs] (FE xs z):=by
 refine tqm [.o (.v (.slice a xs.length cap)),.o (.v (.int .i64 z))] func282 ntmps282 λ_ _=>?_;have hFd:=DC a cap xs z hl;have hRt:=Q0 a cap xs;unfold FE;unfold Vj at hFd;cases hW:D5 xs
 ·rw[hW] at hRt;rw[hW,L6] at hFd;refine tqc I5 (λ_=>hFd) ?_;refine tqc I5 (λ_=>hRt) ?_;exact Al [] I2 λ_=>by rw[Bi I];exact⟨I,I⟩
 rw[hW] at hRt;rw[hW,Tv] at hFd;cases hF:decide (0<=Md xs z)
 ·rw[hF] at hFd;refine tqc I5 (λ_=>hFd) ?_;refine tqc I5 (λ_=>hRt) ?_;exact Al [] I2 λ_=>by rw[Ar tqS,Bi I];exact⟨I,I⟩
 rw[hF] at hFd;obtain⟨i,x,hi,hx,hp⟩:=Rr (p:=λx:Wt=>x.site == z) (xs:=xs) (Kf hF);have hi':Md xs z=((i:Nat):Int):=hi;rw[hi'] at hFd;simp only[Ci] at hFd;have hil:=(Aa.1 hx).1;have hdr:xs.eraseIdx i=J5 xs z:=Vg hi λj y hj hy=>by
  simp only[N6];intro e;have:=FH hW hx hy (by rw[e];simpa using hp);omega
 have hdl:(J5 xs z).length=xs.length- 1:=by rw[<-hdr,U5];simp[hil]
 refine tqc I5 (λ_=>hFd) ?_;refine tqc I5 (λ_=>hRt) ?_;refine Ik I5 (λ_=>I) (Vc a cap xs tqO) ?_;intro a1 c1;refine Af (z:=((i+1:Nat):Int)) ?_;refine Nr (args:=λ_ v=>[v,.int .i64 (i:Int),.int .i64 ((i+1:Nat):Int)]) 0 [] I I I I I I I (λ_=>I) I I (λ_=>RP xs i hil tqO) tqS ?_;intro a2 c2;rw[hdr,<-hdl];refine Dj (D8 (j:=0) (v:=.slice a2 (J5 xs z).length c2) (m:=(J5 xs z).length) (enc:=wtL) (xs:=J5 xs z) (.inl I) Ez I I) ?_;exact Al [slF wtL 5 (.slice a2 (J5 xs z).length c2) (J5 xs z)] I2 λ_=>by rw[Ar tqS,Ar tqS];exact⟨_,_,I,I⟩
theorem CD (x:Hd):∀u∈hdL x,u.oneCell'=true:=by
 intro u hu;exact Fs (xs:=[x]) u (by simpa using hu)
theorem SO (xs:List Hd) (i:Nat) (x:Hd) (hi:i<=xs.length) (hlen:xs.length<=1000000) (b:Nat):
  CoW prog 254 (λv=>[v,.int .i64 (i:Int),.slice (some ⟨b,0,none⟩) 1 1]) [B9 b (hdL x) 170] 170 3 xs.length (xs.flatMap hdL) (xs.length+1) ((X0 xs i x).flatMap hdL):=by
 refine JW (tab:=tb) (ok:=R8) (λv=>[.o (.v v),.o (.v (.int .i64 (i:Int))),.o (.v (.slice (some ⟨b,0,none⟩) 1 1))]) func254 ntmps254 I (λ_=>I) (λ_ _=>I) ?_;intro w0 A0 a cap;have hXl:=Dd x;refine Sq (i:=i) I hi I I I I ?_;by_cases hin:i=xs.length
 ·subst hin;refine A7 (λ_=>?_) (λh=>by simp at h);have e:X0 xs xs.length x=xs++[x]:=by simp[X0]
  have e2:xs.flatMap hdL++hdL x=(X0 xs xs.length x).flatMap hdL:=by rw[e];simp
  refine Dq 0 (m':=1) (news:=hdL x) I I I I I I I I I tqD I I I (Aod I (F7 ..)) I (CD x) tqO tqM ?_;intro a2 c2;rw[e2];exact Po 0 I I I I
 refine A7 (λh=>?_) λ_=>?_
 ·exfalso;simp at h;omega
 refine BK 0 I tqO ?_;intro g hs hg hhl htk hmc hcm;subst hg;have hnl:((xs.drop i).flatMap hdL).length=(xs.length- i)*3:=by rw[Xk Dd,Bn]
 have hA:hs.take (i*3)=(xs.take i).flatMap hdL:=XT Dd htk hi;have hAl:((xs.take i).flatMap hdL).length=i*3:=by rw[Xk Dd,Am,C1 hi]
 have hD:(hs.drop (i*3)).take ((xs.drop i).flatMap hdL).length=(xs.drop i).flatMap hdL:=MZ Dd htk i;have hres:(xs.take i).flatMap hdL++hdL x++(xs.drop i).flatMap hdL=(X0 xs i x).flatMap hdL:=by simp[X0]
 have e1:i*3+(hdL x).length=(i+1)*3:=by rw[hXl];omega
 have hsum:(i+1)*3+((xs.drop i).flatMap hdL).length=(xs.length+1)*3:=by rw[hnl];omega
 have hmul:xs.length*3<=cap*3:=D0 _ hmc;refine Af (z:=((xs.length+1:Nat):Int)) (hz:=by rw[Ey]<;>omega) (ho:=I) (hx:=I) (hy:=I) (hr:=I) ?_;refine Mb (VT I I I I I I) ?_;refine Ai (λhc=>?_) λhc=>?_
 ·refine Mi (i:=i) ?_;refine Af (z:=((xs.length+1:Nat):Int)) (hz:=by rw[Ey]<;>omega) (ho:=I) (hx:=I) (hy:=I) (hr:=I) ?_;refine Af (z:=((xs.length+1- i:Nat):Int)) (hz:=by rw[Ey]<;>omega) (ho:=I) (hx:=I) (hy:=I) (hr:=I) ?_;refine WJ 0 (q:=xs.length+1- i) I I I I I tqK I I I I I I tqD I I I tqO tqO (by rw[hhl];omega) tqO tqM ?_;intro a2 c2 junk hjl;have hq:i+(xs.length+1- i)=xs.length+1:=by omega
  rw[hq];refine BK 1 I tqO ?_;intro g2 hs2 hg2 hhl2 htk2 hmc2 hcm2;subst hg2;have hA2:hs2.take (i*3)=(xs.take i).flatMap hdL:=by
   have:=Fb (List.take (i*3)) htk2;rw[Gq,C1 tqO,C0 (by rw[Am];omega),Gq,Nat.min_self,hA] at this;exact this
  have hmul2:(xs.length+1)*3<=c2*3:=D0 _ hmc2;refine J1 (i:=i) ?_;rw[Bl];refine Oo 1 (off:=i*3) (m:=1) (news:=hdL x) I I I I I I I (Abu I (F7 ..)) (by simp only[Qr];split<;>omega) I (by rw[hXl,hhl2];omega) (CD x) ?_;refine Ao [4,7,8] (tqs 0 4<| .op 5<|.op 6<| .alt (.op 4<|.op 7<|.op 8 .z) (.op 7<|.op 4<|.op 8 .z)) [] [] [] [] λ_=>?_;refine⟨_,Cb (z:=((i+1:Nat):Int)) (ho:=I) (hx:=I) (hy:=I) (hr:=I) (hz:=by rw[Ey]<;>omega),?_⟩;have hfin:=Ajt (hs:=hs2) (X:=hdL x) (D:=(xs.drop i).flatMap hdL) hA2 hAl I I;rw[e1,hres,hsum] at hfin;have hl2:(hs2.take (i*3)++hdL x++hs2.drop ((i+1)*3)).length=c2*3:=by
   rw[Az,Az,Am,Bn,hXl,hhl2];omega
  refine⟨?_,?_⟩
  ·refine J1 (i:=i+1) ?_;rw[Bl];refine tqQ<|J1 (i:=i) ?_;rw[Bl];refine tqQ ?_;rw[e1];refine Oo 1 (off:=(i+1)*3) (m:=xs.length- i) (news:=(xs.drop i).flatMap hdL) I I I I I I I (CZ (q:=0) I I hD) (by simp only[Qr];split<;>omega) hnl (by rw[hnl,hl2];omega) Fs ?_;rw[hsum];refine tqQ<|Py (Ow (sz:=3) (j:=1) (m:=xs.length+1) I tqO hcm2 (by rw[Az,Az,Am,Bn,hnl,hl2];omega) (cells:=(X0 xs i x).flatMap hdL) hfin) ?_;exact Po 1 I I I I
  ·refine J1 (i:=i) ?_;rw[Bl];refine tqQ<|J1 (i:=i+1) ?_;rw[Bl];refine tqQ ?_;rw[e1];refine Oo 1 (off:=(i+1)*3) (m:=xs.length- i) (news:=(xs.drop i).flatMap hdL) I I I I I I I (CZ (q:=0) I I hD) (by simp only[Qr];split<;>omega) hnl (by rw[hnl,hl2];omega) Fs ?_;rw[hsum];refine tqQ<|Py (Ow (sz:=3) (j:=1) (m:=xs.length+1) I tqO hcm2 (by rw[Az,Az,Am,Bn,hnl,hl2];omega) (cells:=(X0 xs i x).flatMap hdL) hfin) ?_;exact Po 1 I I I I
 ·have hfin:=Ajs (hs:=hs) (X:=hdL x) (D:=(xs.drop i).flatMap hdL) hA hAl I I (by rw[hnl,hXl,hhl];omega);rw[e1,hres,hsum] at hfin;refine Af (z:=((xs.length+1:Nat):Int)) (hz:=by rw[Ey]<;>omega) (ho:=I) (hx:=I) (hy:=I) (hr:=I) ?_;refine Mi (i:=xs.length+1) ?_;refine Af (z:=((i+1:Nat):Int)) (hz:=by rw[Ey]<;>omega) (ho:=I) (hx:=I) (hy:=I) (hr:=I) ?_;refine J1 (i:=i+1) ?_;rw[Bl];refine QA 0 func303 tqK tqK tqK tqK I I I I (F7 ..) I I (by intro h0;rw[h0] at hhl;simp at hhl;omega) (tS:=28) (tR:=4) I ?_;refine Ao [4,7,8] (tqs 0 4<| .op 5<|.op 6<| .alt (.op 4<|.op 7<|.op 8 .z) (.op 7<|.op 4<|.op 8 .z)) [] [] [] [] λ_=>?_;refine⟨_,Cb (z:=((i+1:Nat):Int)) (ho:=I) (hx:=I) (hy:=I) (hr:=I) (hz:=by rw[Ey]<;>omega),?_⟩;have hl2:(hs.take ((i+1)*3)++(xs.drop i).flatMap hdL++hs.drop ((xs.length+1)*3)).length=cap*3:=by
   rw[Az,Az,Am,Bn,hnl,hhl];omega
  refine⟨?_,?_⟩
  ·refine J1 (i:=i+1) ?_;rw[Bl];refine tqQ<|J1 (i:=i) ?_;rw[Bl];refine tqQ<|Oo 0 (off:=(i+1)*3) (m:=xs.length- i) (news:=(xs.drop i).flatMap hdL) I I I I I I I (CZ (q:=0) I I hD) (by simp only[Qr];split<;>omega) hnl (by rw[hnl,hhl];omega) Fs ?_;rw[hsum];refine tqQ<|J1 (i:=i) ?_;rw[Bl];refine Oo 0 (off:=i*3) (m:=1) (news:=hdL x) I I I I I I I (Abu I (F7 ..)) (by simp only[Qr];split<;>omega) I (by rw[hl2,hXl];omega) (CD x) ?_;rw[e1];refine Py (Ow (sz:=3) (j:=0) (m:=xs.length+1) I tqO hcm (by rw[Az,Az,Am,Bn,hl2,hXl];omega) (cells:=(X0 xs i x).flatMap hdL) hfin) ?_;exact Po 0 I I I I
  ·refine J1 (i:=i) ?_;rw[Bl];refine tqQ<|J1 (i:=i+1) ?_;rw[Bl];refine tqQ<|Oo 0 (off:=(i+1)*3) (m:=xs.length- i) (news:=(xs.drop i).flatMap hdL) I I I I I I I (CZ (q:=0) I I hD) (by simp only[Qr];split<;>omega) hnl (by rw[hnl,hhl];omega) Fs ?_;rw[hsum];refine tqQ<|J1 (i:=i) ?_;rw[Bl];refine Oo 0 (off:=i*3) (m:=1) (news:=hdL x) I I I I I I I (Abu I (F7 ..)) (by simp only[Qr];split<;>omega) I (by rw[hl2,hXl];omega) (CD x) ?_;rw[e1];refine Py (Ow (sz:=3) (j:=0) (m:=xs.length+1) I tqO hcm (by rw[Az,Az,Am,Bn,hl2,hXl];omega) (cells:=(X0 xs i x).flatMap hdL) hfin) ?_;exact Po 0 I I I I
theorem EZ {α:Type} {p:α->Bool} {xs:List α} (h1:∀(j:Nat) x,j<i->xs[j]? =some x->p x=true) (h2:∀(j:Nat) x,i<=j->xs[j]? =some x->p x=false):xs.take i=xs.filter p/\xs.drop i=xs.filter λx=> !p x:=by
 have a1:∀x∈xs.take i,p x=true:=by
  intro x hx;obtain⟨j,hj⟩:=B6.1 hx;rw[Kz] at hj;split at hj
  ·rename_i h;exact h1 j x h hj
  ·cases hj
 have a2:∀x∈xs.drop i,p x=false:=by
  intro x hx;obtain⟨j,hj⟩:=B6.1 hx;rw[E3] at hj;exact h2 _ x tqO hj
 constructor
 ·conv=>rhs;rw[<-Gp i xs,Js]
  rw[Hi.2 a1,List.filter_eq_nil_iff.2 λx hx=>by rw[a2 x hx];simp,Bu]
 ·conv=>rhs;rw[<-Gp i xs,Js]
  rw[List.filter_eq_nil_iff.2 λx hx=>by rw[a1 x hx];simp,Hi.2 λx hx=>by rw[a2 x hx];rfl,Cs]
def Is (hs:List Hd) (x:Hd):List Hd:=(hs.filter λy=>decide (y.site<x.site))++x::hs.filter λy=> !decide (y.site<x.site)
theorem BV (hs:List Hd) (x:Hd):(Is hs x).length=hs.length+1:=by
 have:∀l:List Hd,(l.filter λy=>decide (y.site<x.site)).length+(l.filter λy=> !decide (y.site<x.site)).length=l.length:=by
  intro l;induction l with
  |nil=>rfl
  |cons y l ih=>by_cases h:y.site<x.site<;>simp[h] at ih⊢ <;>omega
 have:=this hs;simp only[Is,Az,Ct];omega
def IK (hs:List Hd) (x:Hd):Gx:=λe _ F1=>
 if (Ff hs&&hdB x)=false then e=.returned (.tuple #[.slice none 0 0,.int .i64 2])/\F1=[]
 else if hs.any (C9 x.site)=true then e=.returned (.tuple #[.slice none 0 0,.int .i64 230])/\F1=[]
 else if hs.any (Rm x.mode)=true then e=.returned (.tuple #[.slice none 0 0,.int .i64 231])/\F1=[]
 else ∃a c,e=.returned (.tuple #[.slice a (hs.length+1) c,.int .i64 0])/\F1=[slF hdL 3 (.slice a (hs.length+1) c) (Is hs x)]
theorem Adh (a:Option Addr) (cap:Nat) (xs:List Hd) (x:Hd) (hl:xs.length<=1000000):Cm prog 163 [.slice a xs.length cap,.agg (hdL x).toArray] [] [slF hdL 3 (.slice a xs.length cap) xs] (IK xs x):=by
 refine tqm [.o (.v (.slice a xs.length cap)),.g [.v (.int .i64 x.site),.v (.int .i64 x.use),.v (.int .i64 x.mode)]] func163 ntmps163 λ_ _=>?_;refine Vb 0 I I ?_;refine tqc I5 (λ_=>Uj a cap xs hl) ?_;unfold IK;cases hB:Ff xs
 ·refine Aj (F0:=[]) [] [] I7 (λ_=>(Sm none 0 [] false x.site tqS).facts λA w h f hf=>by rw[Bc] at hf;subst hf;exact Wl A w) ?_;rintro e cs F1 _ ⟨rfl,rfl⟩;refine⟨I,?_⟩;exact Al [] I2 λ_=>by rw[Bi tqS];exact⟨I,I⟩
 have hS:=Sm a cap xs true x.site hl;have hM:=OL x;cases hA:xs.any (C9 x.site);rotate_left
 ·obtain⟨i,y,hi,hy,hs,hf,hT⟩:=Za hA;rw[hT] at hS;refine tqc I5 (λ_=>hS) ?_;refine tqc I5 (λ_=>hM) ?_;cases hX:hdB x
  ·refine⟨I,?_⟩;exact Al [] I2 λ_=>by rw[Bi tqS];exact⟨I,I⟩
  refine⟨I,?_⟩;exact Al [] I2 λ_=>by rw[Ar tqS,Bi I];exact⟨I,I⟩
 rw[SE hA] at hS;refine tqc I5 (λ_=>hS) ?_;refine tqc I5 (λ_=>hM) ?_;cases hX:hdB x
 ·refine⟨I,?_⟩;exact Al [] I2 λ_=>by rw[Bi tqS];exact⟨I,I⟩
 refine tqc I5 (λ_=>Aab a cap xs true x.mode hl) ?_;cases hC:xs.any (Rm x.mode);rotate_left
 ·refine⟨I,?_⟩;exact Al [] I2 λ_=>by rw[Ar tqS,Ar tqS,Bi I];exact⟨I,I⟩
 have hR:W9 xs=true:=by simp only[Ff,Ad] at hB;exact hB.1.2
 refine Aj [] [] I7 (λ_=>Ah4 a cap xs x hl hR) ?_;rintro e cs F1 _ ⟨i,q,⟨h1,h2,h3⟩,rfl,rfl⟩;obtain⟨e1,e2⟩:=EZ (p:=λy:Hd=>decide (y.site<x.site)) (xs:=xs) (i:=i) (λj y hj hy=>by simpa using h2 j y hj hy) (λj y hj hy=>by simpa using h3 j y hj hy);have hins:X0 xs i x=Is xs x:=by rw[X0,e1,e2];rfl
 have hal:=BV xs x;refine Ao [1,4,5] (.op 0<|.op 2<|.op 3<|.alt (.op 1<| .op 4<|.op 5<|.op 6<| .op 7 .z) (.op 4<| .op 1<| .op 5<|.op 6<| .op 7 .z)) [0] [] [] [slF hdL 3 (.slice a xs.length cap) xs] λ_=>?_;refine⟨?_,?_⟩
 ·refine Ik I5 (λ_=>I) (Sh a cap xs tqO) ?_;intro a1 c1;refine tqQ<|tqQ<|Nr (args:=λρ v=>[v,.int .i64 (i:Int),.slice (some ⟨ρ 4,0,none⟩) 1 1]) 3 [4] I I I I I I I (λ_=>I) I I (λρ=>SO xs i x h1 tqO (ρ 4)) tqS ?_;intro a2 c2;refine tqQ ?_;rw[hins];refine Dj (D8 (j:=3) (v:=.slice a2 (xs.length+1) c2) (m:=xs.length+1) (enc:=hdL) (xs:=Is xs x) (.inl I) Dd hal.symm I) ?_;exact Al [slF hdL 3 (.slice a2 (xs.length+1) c2) (Is xs x)] I2 λ_=>by rw[Ar tqS,Ar tqS,Ar tqS];exact⟨_,_,I,I⟩
 ·refine tqQ<|Ik I5 (λ_=>I) (Sh a cap xs tqO) ?_;intro a1 c1;refine tqQ<|Nr (args:=λρ v=>[v,.int .i64 (i:Int),.slice (some ⟨ρ 3,0,none⟩) 1 1]) 4 [3] I I I I I I I (λ_=>I) I I (λρ=>SO xs i x h1 tqO (ρ 3)) tqS ?_;intro a2 c2;refine tqQ ?_;rw[hins];refine Dj (D8 (j:=4) (v:=.slice a2 (xs.length+1) c2) (m:=xs.length+1) (enc:=hdL) (xs:=Is xs x) (.inl I) Dd hal.symm I) ?_;exact Al [slF hdL 3 (.slice a2 (xs.length+1) c2) (Is xs x)] I2 λ_=>by rw[Ar tqS,Ar tqS,Ar tqS];exact⟨_,_,I,I⟩
def hdE (x:Hd):List Value:=[.int .i64 x.site,.agg (hdL x).toArray]
theorem ZQ (a:Option Addr) (cap:Nat) (xs:List Hd) (b:Nat) (hl:xs.length<=1000000):Y2 prog 335 [.pointer (some ⟨b,0,none⟩)] [B9 b [.slice a xs.length cap] 28,slF hdL 3 (.slice a xs.length cap) xs] hdE xs:=by
 refine Xs (tab:=tb) (ok:=R8) [.o (.v (.pointer (some ⟨b,0,none⟩)))] func335 ntmps335 I I (λ_=>I) ?_;intro S;refine Xi I ?_;refine Au (Ce (S.inF (B9 b [.slice a xs.length cap] 28)) λA w h=>L9 (o:=0) I _ w h.2) ?_;refine En func336 ntmps336 ?_;intro w1 A1 M1 N1 hN1;refine⟨I,?_⟩;refine Agc (enc':=hdA) (fs:=[slF hdL 3 (.slice a xs.length cap) xs]) (cj:=[.slice a xs.length cap]) (tj:=28) 1 0 2 0 (λb=>Aio a cap xs b hl) tqS (f0:=slF hdL 3 (.slice a xs.length cap) xs) tqS tqS I I I tqD I I (λ_=>I) I I ?_ ?_ ?_
 ·intro k x hx Z B w0 A0 M N ro bu hN hM;refine⟨I,?_⟩;refine Aa1 (Z:=Z) k hM I I I I hx (λ_=>I) tqS tqS ?_ ?_
  ·exact⟨tqS,tqS,I,I,I⟩
  ·exact⟨I,tqS,I,I,I⟩
 ·exact Oa (D:=λ_=>[]) Qo I (Og tqS I I)
 ·intro k hk1 hk2;exact Oa (D:=λ_=>[]) Qo I (Px k tqS hk1 hk2 I I)
theorem Aaa (a:Option Addr) (cap:Nat) (xs:List Hd) (hl:xs.length<=1000000):Cm prog 319 [.slice a xs.length cap] [] [slF hdL 3 (.slice a xs.length cap) xs] (λe _ F1=>∃b a' c',e=.returned (.func (.func 335) #[] #[.pointer (some ⟨b,0,none⟩)])/\F1=[B9 b [.slice a' (okH xs).length c'] 28,slF hdL 3 (.slice a' (okH xs).length c') (okH xs)]):=by
 refine tqm [.o (.v (.slice a xs.length cap))] func319 ntmps319 λ_ _=>?_;refine tqc I5 (λ_=>Uj a cap xs hl) ?_;unfold okH;cases hB:Ff xs
 ·refine Ik (F0:=[]) I5 (λ_=>I) (show Co _ _ _ [] id _ _ _ _ from λA w hA _=>Sh none 0 [] tqS A w hA λf hf=>by rw[Bc] at hf;subst hf;exact Wl A w) ?_;intro a1 c1;refine Dj (D8 (j:=0) (v:=.slice a1 0 c1) (m:=0) (enc:=hdL) (xs:=[]) (.inl I) Dd I I) ?_;exact Lp [1] [slF hdL 3 (.slice a1 0 c1) []] I3 λρ=>⟨ρ 1,a1,c1,I,I⟩
 ·refine Ik I5 (λ_=>I) (Sh a cap xs tqO) ?_;intro a1 c1;refine Dj (D8 (j:=0) (v:=.slice a1 xs.length c1) (m:=xs.length) (enc:=hdL) (xs:=xs) (.inl I) Dd I I) ?_;exact Lp [1] [slF hdL 3 (.slice a1 xs.length c1) xs] I3 λρ=>⟨ρ 1,a1,c1,I,I⟩
theorem AD:∀(m:Nat) (l:List Int),l.Nodup->(∀x∈l,0<=x/\x<m)->l.length<=m
 |0,l,_,h=>by
  cases l with
  |nil=>simp
  |cons x l=>have:=h x tqS;omega
 |m+1,l,hn,h=>by
  by_cases hm:(m:Int)∈l
  ·have h1:=AD m (l.erase (m:Int)) (hn.erase _) λx hx=>by
    obtain⟨g1,g2⟩:=(List.Nodup.mem_erase_iff hn).1 hx;have:=h x g2;omega
   rw[List.length_erase_of_mem hm] at h1;omega
  ·have h1:=AD m l hn λx hx=>by
    have:=h x hx;have:x≠(m:Int):=λe=>hm (e ▸ hx);omega
   omega
theorem Uk (h:Ff xs=true):xs.length<=256:=by
 obtain⟨h1,h2,_⟩:=Tl h;have:=AD 256 (xs.map Hd.site) ?_ ?_
 ·simpa using this
 ·rw[List.nodup_iff_pairwise_ne,S5];exact h2.imp λhab e=>by omega
 ·intro z hz;obtain⟨x,hx,rfl⟩:=Cd.1 hz;have:=A6.1 h1 x hx;simp[hdB] at this;omega
theorem BL (h:Ff xs=true):okH xs=xs:=by unfold okH;rw[h];rfl
def FU (x:Tok):Bool:=D5 x.q&&Ff x.hs&&x.q.all (λw=>Gm x.seq w.site w.use&& !x.hs.any (C9 w.site))&&x.hs.all λh=>Gm x.seq h.site h.use
variable {x:Tok}
theorem Ab4 {n l s:Int}:Fq n l s x=(NR n l s x&&Ho x.c&&FU x):=by
 rw[Be];simp only[Fq,NR,FU,Ad];constructor
 ·rintro ⟨⟨⟨⟨⟨⟨⟨⟨⟨h1,h2⟩,h3⟩,h4⟩,h5⟩,h6⟩,h7⟩,h8⟩,h9⟩,h10⟩;exact⟨⟨⟨⟨⟨h1,h3⟩,h2⟩,h8⟩,h7⟩,⟨⟨h4,h6⟩,h9⟩,h10⟩
 ·rintro ⟨⟨⟨⟨⟨h1,h3⟩,h2⟩,h8⟩,h7⟩,⟨⟨h4,h6⟩,h9⟩,h10⟩;exact⟨⟨⟨⟨⟨⟨⟨⟨⟨h1,h2⟩,h3⟩,h4⟩,by simpa using Uk h6⟩,h6⟩,h7⟩,h8⟩,h9⟩,h10⟩
theorem Ab6 (n l s:Int) (x:Tok) (p:Sls) (hx:x.small):Cm prog 276 [.agg (VJ x p n l s).toArray] [] (Bs x p) (Bd (.bool (FU x))):=by
 obtain⟨hx1,hx2,hx3⟩:=hx;obtain⟨age,seq,q,hs,⟨cv,cf,cn⟩⟩:=x;dsimp only at hx1 hx2 hx3;obtain⟨a1,c1,a2,c2,a3,c3⟩:=p;unfold Bs;dsimp only;refine tqn [.g [.v (.int .i64 age),.v (.slice a1 seq.length c1),.v (.slice a2 q.length c2),.v (.slice a3 hs.length c3),.v (.int .i64 cv),.v (.int .i64 cf),.v (.int .u64 cn),.v (.int .i64 n),.v (.int .i64 l),.v (.int .i64 s)]] func276 ntmps276 I I (λ_ _=>I) λ_ _=>?_;obtain⟨Z,hZ⟩:∃Z:Bool,Z=FU ⟨age,seq,q,hs,⟨cv,cf,cn⟩⟩:=⟨_,I⟩;rw[<-hZ];unfold FU at hZ;dsimp only at hZ;have hWc:=XH a2 c2 q;have hHc:=WF a3 c3 hs hx3;unfold Ace at hWc;unfold ZZ at hHc;cases hW:D5 q
 ·rw[hW] at hWc hZ;refine tqc I5 (λ_=>hWc) ?_;rw[show Z=false by rw[hZ];simp];exact Fg (Al [] I2 λ_=>⟨I,I⟩)
 rw[hW] at hWc hZ;refine tqc I5 (λ_=>hWc) ?_;cases hH:Ff hs
 ·rw[hH] at hHc hZ;refine tqc I5 (λ_=>hHc) ?_;rw[show Z=false by rw[hZ];simp];exact Fg (Al [] I2 λ_=>⟨I,I⟩)
 rw[hH] at hHc hZ;refine tqc I5 (λ_=>hHc) ?_;simp only[C8] at hZ;refine Br (γ:=Nat) (λk=>k<=q.length/\(q.take k).all (λw=>Gm seq w.site w.use&& !hs.any (C9 w.site))=true) (λk=>[(25,.o (.v (.int .i64 k)))]) (λ_=>[]) (λ_=>[]) (λk=>q.length- k) 0 ⟨Ax _,I⟩ Ac ?_;rintro k ⟨hk,hallq⟩;refine Ai (λh5=>?_) λh5=>?_
 ·have hQB:q.all wtB=true:=by simp only[D5,Ad] at hW;exact hW.1.2
  obtain⟨w,hw⟩:=A9 (xs:=q) (k:=k);have hwB:wtB w=true:=A6.1 hQB w (Av hw);have hwI:0<=w.site/\1<=w.use/\w.use<=1099511627776:=by simp[wtB] at hwB;omega
  have bad:(Gm seq w.site w.use&& !hs.any (C9 w.site))=false->Z=false:=λh=>by rw[hZ,Ms hw h];simp
  refine Dk (slF wtL 5 (.slice a2 q.length c2) q) (B1 hw) ?_;rintro ⟨b,off,rfl⟩;refine Au (Bb (i:=k)) ?_;refine Au (Cu (vs:=wtL w) (slF wtL 5 (.slice (some ⟨b,off,none⟩) q.length c2) q) (Du hw)) ?_;have hfd:=CF a3 c3 hs w.site hx3;rw[BL hH] at hfd;refine tqc I5 (λ_=>hfd) ?_;cases hA:hs.any (C9 w.site);rotate_left
  ·rw[bad (by rw[hA];simp)];exact Fg (Al [] I2 λ_=>⟨I,I⟩)
  refine tqc I5 (λ_=>MA n l s ⟨age,seq,q,hs,⟨cv,cf,cn⟩⟩ ⟨a1,c1,some ⟨b,off,none⟩,c2,a3,c3⟩ w.site w.use hwI.1 hwI.2) ?_;dsimp only;cases hN:Gm seq w.site w.use
  ·rw[bad (by rw[hN];simp)];exact Fg (Al [] I2 λ_=>⟨I,I⟩)
  refine Af (z:=(k+1:Nat)) ?_;exact⟨k+1,⟨tqO,by rw[Dl,hw];simp only[Ih,hallq,C8];simp[hN,hA]⟩,tqP,Ac⟩
 obtain rfl:k=q.length:=by omega
 rw[D3] at hallq;rw[hallq] at hZ;simp only[C8] at hZ;clear hallq;have hEc:=Aaa a3 c3 hs hx3;rw[BL hH] at hEc;refine Aj [] [] I7 (λ_=>hEc) ?_;rintro e cs F1 _ ⟨b,a4,c4,rfl,rfl⟩;refine Rk (γ:=Unit) (λk _=>k<=hs.length/\(hs.take k).all (λw=>Gm seq w.site w.use)=true) (λ_ _=>([(0,.c [.v (.int .i64 age),.v (.slice a1 seq.length c1),.v (.slice a2 q.length c2),.v (.slice a3 hs.length c3),.v (.int .i64 cv),.v (.int .i64 cf),.v (.int .u64 cn),.v (.int .i64 n),.v (.int .i64 l),.v (.int .i64 s)] 213),(1,.c [.v (.bool false)] 4)],[B9 b [.slice a4 hs.length c4] 28,slF hdL 3 (.slice a4 hs.length c4) hs,slF Bt 1 (.slice a1 seq.length c1) seq])) () (ZQ a4 c4 hs b hx3) I I I (λ_=>I) I (Ax _) ⟨Ax _,I⟩ ?_ tqS ?_ ?_
 ·exact Ac
 ·rintro k w- hw ⟨hk,hallh⟩ l1 w1 A1 M1 N1 hN1;have hHB:=(Tl hH).1;have hwB:hdB w=true:=A6.1 hHB w (Av hw);have hwI:0<=w.site/\1<=w.use/\w.use<=1099511627776:=by simp[hdB] at hwB;omega
  have hkl:=(Aa.1 hw).1;intro w2 A2 M2 N2 hN2;refine⟨I,?_⟩;refine tqc I5 (λ_=>MA n l s ⟨age,seq,q,hs,⟨cv,cf,cn⟩⟩ ⟨a1,c1,a2,c2,a3,c3⟩ w.site w.use hwI.1 hwI.2) ?_;dsimp only;cases hN:Gm seq w.site w.use
  ·rw[show Z=false by rw[hZ,Ms hw hN]];refine⟨I,?_⟩;exact Yb (Oa Qo I (Fg (Al [] I2 λ_=>⟨I,I⟩)))
  ·exact⟨(),⟨tqO,by rw[Dl,hw];simp only[Ih,hallh,C8];simp[hN]⟩,Ac (hM:=Fy hN2)⟩
 ·rintro- ⟨hk,hallh⟩;rw[D3] at hallh;rw[show Z=true by rw[hZ,hallh]];exact Yb (Oa Qo I (Fg (Al [] I2 λ_=>⟨I,I⟩)))
theorem O3:Jh prog 132:=by
 intro n pe K lb w;have hn:∀w:World,(binOp .neq 20 .nilIface .nilIface).run prog w=.ok (.bool false) w:=λ_=>by kernel_rfl
 refine G4 func132 I trivial λc₀ cs hu=>?_;simp only[ntmps132,E9,Ct,Ep,Nat.reduceAdd,Nat.reduceSub,Fu,Fv,Gz,Gd,Cs,E2];apply Mp;apply Jy;simp[wpOpsSIn,go_sem,recoverD,hu,Exit.thenS];refine Iw I (H9.2 ?_);generalize hQ:(λe a' w'=>bodyPostS _ _ _ _ _ e a' _ w')=Q;have HQ:=Fm hQ;clear hQ
 go_wp2
 rw[<-HQ.out];cases c₀;simp_all [bodyPostS,results,results132]
theorem Ri:Ld prog 132 45 45:=by
 intro nn pe K lb n older w R hnn hE hK hR;have hn:∀(w:World) (n:Int),(binOp .neq 20 (.iface 45 (.int .i64 n)) .nilIface).run prog w=.ok (.bool true) w:=λ_ _=>by kernel_rfl
 have ht:∀(w:World) (n:Int),(Instr.typeAssert (.iface 45 (.int .i64 n)) 20 45 true).run prog w=.ok (.tuple #[.int .i64 n,.bool true]) w:=λ_ _=>by kernel_rfl
 have eK:∀args w,(callFunc K args).run prog w=.ok (.enter K args) w:=hE;refine G4 func132 I trivial λc₀ cs hu=>?_;simp only[ntmps132,E9,Ct,Ep,Nat.reduceAdd,Nat.reduceSub,Fu,Fv,Gz,Gd,Cs,E2];apply Mp;apply Jy;simp[wpOpsSIn,go_sem,recoverD,hu,Exit.thenS];refine Iw I (H9.2 ?_);generalize hQ:(λe a' w'=>bodyPostS _ _ _ _ _ e a' _ w')=Q;have HQ:=Fm hQ;clear hQ
 go_wp2_with fail
 refine hK.mono ?_;rintro e w1 ⟨rfl,hr⟩;obtain⟨v,hv⟩:=hR w1 hr;have c1:=BD hv
 go_wp2
 rw[<-HQ.out];cases c₀;simp_all [bodyPostS,results,results132]
 exact⟨w1,hr,I⟩
theorem MC (n l s:Int) (x:Tok) (p:Sls) (hx:x.small):Cm prog 203 [.agg (VJ x p n l s).toArray] [] (Bs x p) (Bd (.bool (Fq n l s x))):=by
 have hS:=Ab9 n l s x p hx.1;have hC:=VD n l s x p;have hL:=Ab6 n l s x p hx;rw[Ab4];obtain⟨age,seq,q,hs,⟨cv,cf,cn⟩⟩:=x;obtain⟨a1,c1,a2,c2,a3,c3⟩:=p;unfold Bs;unfold Bs at hL;dsimp only at hS hC hL⊢;refine tqm [.g [.v (.int .i64 age),.v (.slice a1 seq.length c1),.v (.slice a2 q.length c2),.v (.slice a3 hs.length c3),.v (.int .i64 cv),.v (.int .i64 cf),.v (.int .u64 cn),.v (.int .i64 n),.v (.int .i64 l),.v (.int .i64 s)]] func203 ntmps203 λ_ _=>?_;refine Mb (DE (v:=.agg #[.int .i64 age,.slice a1 seq.length c1,.slice a2 q.length c2,.slice a3 hs.length c3,.int .i64 cv,.int .i64 cf,.int .u64 cn,.int .i64 n,.int .i64 l,.int .i64 s]) I I λ_=>I) ?_;refine Mb (DE (v:=.agg #[.int .i64 age,.slice a1 seq.length c1,.slice a2 q.length c2,.slice a3 hs.length c3,.int .i64 cv,.int .i64 cf,.int .u64 cn,.int .i64 n,.int .i64 l,.int .i64 s]) I I λ_=>I) ?_;refine Mb (DE (v:=.agg #[.int .i64 age,.slice a1 seq.length c1,.slice a2 q.length c2,.slice a3 hs.length c3,.int .i64 cv,.int .i64 cf,.int .u64 cn,.int .i64 n,.int .i64 l,.int .i64 s]) I I λ_=>I) ?_;refine Mb Ha ?_;refine Hj 4 ?_;refine B8 (Io (i:=0) (m:=3)) ?_;refine tqc I5 (λ_=>hS) ?_;generalize NR n l s ⟨age,seq,q,hs,⟨cv,cf,cn⟩⟩=r1;cases r1
 ·exact Al [] I2 λ_=>⟨Bx tqS,I⟩
 refine Af (z:=1) ?_;refine B8 (Io (i:=1) (m:=3)) ?_;refine tqc I5 (λ_=>hC) ?_;generalize Ho ⟨cv,cf,cn⟩=r2;cases r2
 ·exact Al [] I2 λ_=>⟨Bx tqS,I⟩
 refine Af (z:=2) ?_;refine B8 (Io (i:=2) (m:=3)) ?_;refine tqc I5 (λ_=>hL) ?_;generalize FU ⟨age,seq,q,hs,⟨cv,cf,cn⟩⟩=r3;cases r3
 ·exact Al [] I2 λ_=>⟨Bx tqS,I⟩
 refine Af (z:=3) ?_;exact Al [] I2 λ_=>⟨Bx tqS,I⟩
theorem Aij (x:Tok) (p:Sls) (hx:x.small):Cm prog 202 [.agg (G5 x p).toArray] [] (Bs x p) (λe _ F1=>∃p',e=.returned (.agg (G5 x p').toArray)/\F1=Bs x p'):=by
 obtain⟨hx1,hx2,hx3⟩:=hx;obtain⟨age,seq,q,hs,⟨cv,cf,cn⟩⟩:=x;dsimp only at hx1 hx2 hx3;obtain⟨a1,c1,a2,c2,a3,c3⟩:=p;unfold Bs;dsimp only;refine tqm [.g [.v (.int .i64 age),.v (.slice a1 seq.length c1),.v (.slice a2 q.length c2),.v (.slice a3 hs.length c3),.v (.int .i64 cv),.v (.int .i64 cf),.v (.int .u64 cn)]] func202 ntmps202 λ_ _=>?_;refine Ao [2,5,8,10,12,14] (.op 0<|.op 1<| .op 3<|.op 4<| .op 6<|.op 7<| .op 2<| .op 9<| .op 5<| .op 8<| tqs 10 4<| .op 14 .z) [0] [(10,0),(12,0),(14,0)] [] [] λ_=>?_;refine Ik I5 (λ_=>I) (OF a1 c1 seq tqO) ?_;intro x1 y1;refine tqQ<|Ik I5 (λ_=>I) (Vc a2 c2 q tqO) ?_;intro x2 y2;refine tqQ<|Ik I5 (λ_=>I) (Sh a3 c3 hs tqO) ?_;intro x3 y3;refine tqQ<|tqQ<|tqQ<|tqQ<|Dj (D8 (j:=2) (v:=.slice x1 seq.length y1) (m:=seq.length) (enc:=Bt) (xs:=seq) (.inl I) (λ_=>I) I I) ?_;refine Dj (D8 (j:=3) (v:=.slice x2 q.length y2) (m:=q.length) (enc:=wtL) (xs:=q) (.inl I) Ez I I) ?_;refine Dj (D8 (j:=4) (v:=.slice x3 hs.length y3) (m:=hs.length) (enc:=hdL) (xs:=hs) (.inl I) Dd I I) ?_;exact Al (Bs ⟨age,seq,q,hs,⟨cv,cf,cn⟩⟩ ⟨x1,y1,x2,y2,x3,y3⟩) I2 (λ_=>⟨⟨x1,y1,x2,y2,x3,y3⟩,I,I⟩) (hF:=by simp[Bs])
def Anf (x:Tok) (p:Sls) (n l s:Int):List SV:=[.v (.int .i64 x.age),.v (.slice p.a1 x.seq.length p.c1),.v (.slice p.a2 x.q.length p.c2),.v (.slice p.a3 x.hs.length p.c3),.v (.int .i64 x.c.value),.v (.int .i64 x.c.floor),.v (.int .u64 x.c.version),.v (.int .i64 n),.v (.int .i64 l),.v (.int .i64 s)]
def Ail:List PanicEntry:=[{v:=.iface 45 (.int .i64 2),recovered:=false}]
def Afo (n l s:Int) (x:Tok):Ku:=λr Ls F1=>(Fq n l s x=true/\∃p',r=.inl (.o (.p 0 0))/\Ls=[.c (Anf x p' n l s) 213]/\F1=Bs x p')\/(Fq n l s x=false/\r=.inr Ail/\Ls=[]/\F1=[])
def Ps (x:Tok) (p:Sls):List SV:=[.v (.int .i64 x.age),.v (.slice p.a1 x.seq.length p.c1),.v (.slice p.a2 x.q.length p.c2),.v (.slice p.a3 x.hs.length p.c3),.v (.int .i64 x.c.value),.v (.int .i64 x.c.floor),.v (.int .u64 x.c.version)]
theorem GD (n l s:Int) (x:Tok) (p:Sls) (hx:x.small):Cx prog 134 [.g [.v (.int .i64 n),.v (.int .i64 l),.v (.int .i64 s)],.g (Ps x p)] [] (Bs x p) (Afo n l s x):=by
 have hO:=Aij x p hx;obtain⟨age,seq,q,hs,⟨cv,cf,cn⟩⟩:=x;obtain⟨a1,c1,a2,c2,a3,c3⟩:=p;refine tqx func134 ntmps134 ?_;intro ρ w0 A0;refine Ao [1,3,4] (.op 0<| .op 2<| .op 1<| .op 3<|.op 4<| .op 5 .z) [0,1] [] [] [] λ_=>?_;refine Aj [] [] I7 (λ_=>hO) (hF0:=by simp[Bs]) ?_;rintro e cs F1 _ ⟨⟨x1,y1,x2,y2,x3,y3⟩,rfl,rfl⟩;refine tqQ<|tqQ<|tqQ<|tqc I5 (λ_=>MC n l s ⟨age,seq,q,hs,⟨cv,cf,cn⟩⟩ ⟨x1,y1,x2,y2,x3,y3⟩ hx) (hF0:=by simp[Bs]) ?_;unfold Afo;cases hB:Fq n l s ⟨age,seq,q,hs,⟨cv,cf,cn⟩⟩
 ·refine Aj [] [] I7 (λ_=>Oc false 2) ?_;rintro e cs F1 _ ⟨⟨hb,rfl⟩|⟨hb,rfl⟩,rfl⟩
  ·cases hb
  exact Uh [] [] [] I ⟨I,I⟩ I I tqS trivial I (.inr ⟨I,I,I,I⟩) tqS
 ·refine Aj [] [] I7 (λ_=>Oc true 2) ?_;rintro e cs F1 _ ⟨⟨hb,rfl⟩|⟨hb,rfl⟩,rfl⟩;rotate_left
  ·cases hb
  exact Dg [2] (.o (.p 0 0)) [.c (Anf ⟨age,seq,q,hs,⟨cv,cf,cn⟩⟩ ⟨x1,y1,x2,y2,x3,y3⟩ n l s) 213] (Bs ⟨age,seq,q,hs,⟨cv,cf,cn⟩⟩ ⟨x1,y1,x2,y2,x3,y3⟩) ⟨I,trivial⟩ (.inl ⟨I,⟨x1,y1,x2,y2,x3,y3⟩,I,I,I⟩) (hF:=by simp[Bs])
theorem XF:Cm prog 197 [] [] [] (λe cs F1=>e=.returned (.tuple #[])/\cs=[]/\F1=[]):=by
 refine tqm [] func197 ntmps197 λ_ _=>?_;exact Al [] I2 λ_=>⟨I,I,I⟩
def Ab5 (n l s:Int) (x:Tok):Int:=bif Fq n l s x then 0 else 2
theorem LZ (n l s:Int) (x:Tok) (p:Sls) (hx:x.small):Cm prog 129 [.agg #[.int .i64 n,.int .i64 l,.int .i64 s],.agg (G5 x p).toArray] [] (Bs x p) (Bd (.int .i64 (Ab5 n l s x))):=by
 have hO:=GD n l s x p hx;obtain⟨age,seq,q,hs,⟨cv,cf,cn⟩⟩:=x;obtain⟨a1,c1,a2,c2,a3,c3⟩:=p;refine tqn [.g [.v (.int .i64 n),.v (.int .i64 l),.v (.int .i64 s)],.g [.v (.int .i64 age),.v (.slice a1 seq.length c1),.v (.slice a2 q.length c2),.v (.slice a3 hs.length c3),.v (.int .i64 cv),.v (.int .i64 cf),.v (.int .u64 cn)]] func129 ntmps129 I I (λ_ _=>I) λ_ _=>?_;refine AZ I I I I I I I I ?_;refine Cf (mu:=[]) [] I7 trivial hO (hF0:=by simp[Bs]) ?_;unfold Ab5;rintro r Ls F1 (⟨hB,p',rfl,rfl,rfl⟩|⟨hB,rfl,rfl,rfl⟩)
 ·refine Lm O3 (Df func132 tqK I) (Fg ?_);rw[hB];exact tqE
 ·refine Rb [] Ri (Df func132 tqK I) (Df func197 tqK I) I tqS (λρ=>XF) I (Fg ?_);rw[hB];exact tqE
section
variable {α β:Type} {f:α->β->α}
def Mw (f:α->β->α) (k:Nat) (ys:List α) (xs:List β):List α:=(List.zipWith f ys xs).take k++ys.drop k
variable {xs:List β} {ys:List α}
theorem Yy {k:Nat} (h:ys.length=xs.length) (i:Nat):(Mw f k ys xs)[i]? =if i<k then(match ys[i]?,xs[i]? with|some y,some x=>some (f y x)|_,_=>none) else ys[i]?:=by
 unfold Mw;have hl:((List.zipWith f ys xs).take k).length=min k ys.length:=by rw[Am,L4,h,Nat.min_self]
 by_cases hi:i<k
 ·rw[Bi hi];by_cases hy:i<ys.length
  ·rw[Eo (by rw[hl];omega),Db hi,List.getElem?_zipWith];rw[A8 hy,A8 (by omega:i<xs.length)]
  ·rw[Cg (by rw[Az,hl,Bn];omega),Cg (by omega:ys.length<=i)]
 ·rw[Ar hi];by_cases hy:i<ys.length
  ·rw[Dp (by rw[hl];omega),hl,E3,show k+(i- min k ys.length)=i by omega]
  ·rw[Cg (by rw[Az,hl,Bn];omega),Cg (by omega:ys.length<=i)]
theorem Zg {k:Nat} (h:ys.length=xs.length):(Mw f k ys xs).length=ys.length:=by
 unfold Mw;rw[Az,Am,L4,Bn,h];omega
theorem EC {k:Nat} {y:α} {x:β} (h:ys.length=xs.length) (hy:ys[k]? =some y) (hx:xs[k]? =some x):Mw f (k+1) ys xs=(Mw f k ys xs).set k (f y x):=by
 refine F6 λi=>?_;have hk:=(Aa.1 hy).1;rw[Kb,Yy h,Yy h,Zg h];by_cases e:k=i
 ·subst e;rw[Bi tqO,Bi I,Bi hk,hy,hx]
 ·rw[Ar e];by_cases hi:i<k
  ·rw[Bi tqO,Bi hi]
  ·rw[Ar tqO,Ar hi]
theorem AC:Mw f 0 ys xs=ys:=by simp[Mw]
end
def upS (o:Int) (k:Sta):Int:=bif decide (o<k.over) then k.over else o
def Zj (seq:List Int) (known:List Sta) (z:Int):Bool:=match seq[z.toNat]?,known[z.toNat]? with|some o,some k=>decide (o<k.over)|_,_=>false
def sqK (k:Nat) (x:Tok) (known:List Sta):List Int:=Mw upS k x.seq known
def qK (k:Nat) (x:Tok) (known:List Sta):List Wt:=x.q.filter λw=> !(decide (w.site<(k:Int))&&Zj x.seq known w.site)
def hsK (k:Nat) (x:Tok) (known:List Sta):List Hd:=x.hs.filter λh=> !(decide (h.site<(k:Int))&&Zj x.seq known h.site)
def O7 (x:Tok) (known:List Sta) (i:Nat) (k:Sta):Bool:=k.pend&&decide (x.seq.getD i 0<=k.over)&&(Zj x.seq known i|| !(x.q.any (λw=>w.site == i)||x.hs.any (C9 i)))
def Q5 (i:Nat) (k:Sta):Wt:=⟨i,k.over+1,k.mode,k.prio,0⟩
def We (x:Tok) (known:List Sta) (i:Nat):List Wt:=match known[i]? with|some k=>bif O7 x known i k then [Q5 i k] else []|none=>[]
def Ea (k:Nat) (x:Tok) (known:List Sta):List Wt:=(List.range k).flatMap (We x known)
def Gt (x:Tok) (known:List Sta):Tok:= {x with seq:=sqK known.length x known,q:=qK known.length x known++Ea known.length x known,hs:=hsK known.length x known}
theorem EL (k:Nat) (x:Tok) (known:List Sta):Ea (k+1) x known=Ea k x known++We x known k:=by
 unfold Ea;rw[List.range_succ,Em];simp
variable {known:List Sta}
theorem TY {w:Wt} (h:w∈We x known i):∃k,known[i]? =some k/\O7 x known i k=true/\w=Q5 i k:=by
 unfold We at h;split at h
 ·rename_i k hk;cases hp:O7 x known i k
  ·rw[hp] at h;cases h
  ·rw[hp] at h;exact⟨k,hk,hp,by simpa using h⟩
 ·cases h
theorem Wg {w:Wt} (h:w∈Ea k x known):∃i s,i<k/\known[i]? =some s/\O7 x known i s=true/\w=Q5 i s:=by
 obtain⟨i,hi,hw⟩:=Jt.1 h;obtain⟨s,h1,h2,h3⟩:=TY hw;exact⟨i,s,Hc.1 hi,h1,h2,h3⟩
theorem YH (x:Tok) (known:List Sta):∀k,(Ea k x known).Pairwise λa b=>a.site<b.site
 |0=>by simp[Ea]
 |k+1=>by
  rw[EL];refine Hw.2 ⟨YH x known k,?_,λa ha b hb=>?_⟩
  ·unfold We;split
   ·rename_i s _;cases O7 x known k s<;>simp
   ·simp
  ·obtain⟨i,s,h1,_,_,rfl⟩:=Wg ha;obtain⟨s',_,_,rfl⟩:=TY hb;simp only[Q5];omega
theorem Ft {xs:List Wt}:D5 xs=true↔xs.length<=256/\(∀x∈xs,wtB x=true)/\(xs.map Wt.site).Nodup:=by
 simp only[D5,Ad,Aq,A6,Xh]
theorem Zx {w:Wt} (h:wtB w=true):0<=w.site/\w.site<=255:=by
 simp only[wtB,Ad,Aq] at h;omega
theorem Rq {w:Hd} (h:hdB w=true):0<=w.site/\w.site<=255:=by
 simp only[hdB,Ad,Aq] at h;omega
theorem JL {xs:List Wt} (h1:∀x∈xs,wtB x=true) (h2:(xs.map Wt.site).Nodup):D5 xs=true:=by
 refine Ft.2 ⟨?_,h1,h2⟩;have:=AD 256 (xs.map Wt.site) h2 λz hz=>by
  obtain⟨x,hx,rfl⟩:=Cd.1 hz;have:=Zx (h1 x hx);omega
 simpa using this
theorem VN {xs:List Wt} (p:Wt->Bool) (h:D5 xs=true):D5 (xs.filter p)=true:=by
 obtain⟨_,h2,h3⟩:=Ft.1 h;exact JL (λx hx=>h2 x (De.1 hx).1) (h3.sublist (List.filter_sublist.map _))
theorem Mn:Ff xs=true↔(∀x∈xs,hdB x=true)/\(xs.Pairwise λa b=>a.site<b.site)/\xs.Pairwise λa b=>El b.mode a.mode=true:=by
 simp only[Ff,W9,Nv,Et,Ad,Aq,A6,Xh,S5]
theorem Vm (p:Hd->Bool) (h:Ff xs=true):Ff (xs.filter p)=true:=by
 obtain⟨h1,h2,h3⟩:=Mn.1 h;exact Mn.2 ⟨λx hx=>h1 x (De.1 hx).1,h2.filter p,h3.filter p⟩
structure LrnH (n s:Int) (x:Tok) (known:List Sta):Prop where
 len:x.seq.length=known.length
 big:known.length<=256
 ns:(known.length:Int)=n*s
 wait:D5 x.q=true
 hold:Ff x.hs=true
 use:∀o∈x.seq,0<=o/\o<=1099511627776
 sta:∀k∈known,Gk k=true
 qat:∀w∈x.q,Gm x.seq w.site w.use=true/\x.hs.any (C9 w.site)=false
 hat:∀h∈x.hs,Gm x.seq h.site h.use=true
theorem Um {n l s:Int} (h:Ef n l s=true):1<=n*s/\n*s<=256:=by
 obtain⟨⟨h1,h2⟩,_,h3,h4⟩:=In h;have e:s=1\/s=2\/s=3\/s=4:=by omega
 rcases e with rfl|rfl|rfl|rfl<;>omega
theorem LrnH.of {n l s:Int} (h:Fq n l s x=true) (hk:Hn n l s known=true):LrnH n s x known:=by
 simp only[Fq,Ad,A6,Aq,Kq] at h;simp only[Hn,Ad,A6,Aq] at hk;obtain⟨⟨⟨⟨⟨⟨⟨⟨⟨h1,h2⟩,h3⟩,h4⟩,h5⟩,h6⟩,h7⟩,h8⟩,h9⟩,h10⟩:=h;have:=Um h1;exact⟨tqO,tqO,hk.1.2,h4,h6,λo ho=>by simpa [Lk] using h8 o ho,hk.2,λw hw=>⟨(h9 w hw).1,by simpa using (h9 w hw).2⟩,h10⟩
theorem QV {o:Int} {k:Sta} (ho:x.seq[i]? =some o) (hk:known[i]? =some k):Zj x.seq known i=decide (o<k.over):=by
 unfold Zj;rw[Ej,ho,hk]
theorem Am3 {a b:Nat} (hk:k<a) (hb:b<=k):(qK a x known++Ea b x known).any (λw=>w.site == k)=(!Zj x.seq known k&&x.q.any λw=>w.site == k):=by
 rw[List.any_append,show (Ea b x known).any (λw=>w.site == k)=false by
  rw[Gy];intro w hw;obtain⟨i,t,h1,_,_,rfl⟩:=Wg hw;simp[Q5];omega,Bool.or_false,Be]
 simp only[Jr,Ad,Ei,Kq,qK,De];constructor
 ·rintro ⟨w,⟨h1,h2⟩,h3⟩;rw[h3,show decide ((k:Int)<(a:Int))=true by simp;omega,C8] at h2;exact⟨by simpa using h2,w,h1,h3⟩
 ·rintro ⟨h1,w,h2,h3⟩;exact⟨w,⟨h2,by rw[h3,h1];simp⟩,h3⟩
theorem Aj4 {a:Nat} (hk:k<a):(hsK a x known).any (C9 k)=(!Zj x.seq known k&&x.hs.any (C9 k)):=by
 rw[Be];simp only[Jr,Ad,Ei,C9,Kq,hsK,De];constructor
 ·rintro ⟨w,⟨h1,h2⟩,h3⟩;rw[h3,show decide ((k:Int)<(a:Int))=true by simp;omega,C8] at h2;exact⟨by simpa using h2,w,h1,h3⟩
 ·rintro ⟨h1,w,h2,h3⟩;exact⟨w,⟨h2,by rw[h3,h1];simp⟩,h3⟩
theorem Aa8 {a b:Nat} {o:Int} {t:Sta} (hk:k<a) (hb:b<=k) (ho:x.seq[k]? =some o) (ht:known[k]? =some t):O7 x known k t=(t.pend&&decide (t.over=upS o t)&& !((qK a x known++Ea b x known).any λw=>w.site == k)&& !(hsK a x known).any (C9 k)):=by
 rw[Am3 hk hb,Aj4 hk,O7,QV ho ht,upS];have e:x.seq.getD k 0=o:=by rw[D1,ho];rfl
 rw[e];cases t.pend
 ·rfl
 ·by_cases h:o<t.over
  ·rw[D4 h,Ci];simp;omega
  ·rw[Gg h,By];cases x.q.any (λw=>w.site == k)<;>cases x.hs.any (C9 k)<;>(rw[Be];simp;try omega)
section
variable {n s:Int} {x:Tok} {known:List Sta} (H:LrnH n s x known)
include H
variable {k:Nat} {o:Int} {t:Sta}
theorem LrnH.seqAt {i:Nat} (ho:x.seq[i]? =some o) (hk:known[i]? =some t):(sqK k x known)[i]? =some (if i<k then upS o t else o):=by
 unfold sqK;rw[Yy H.len,ho,hk];split<;>rfl
theorem LrnH.seqLen (k:Nat):(sqK k x known).length=known.length:=by rw[sqK,Zg H.len,H.len]
theorem LrnH.pen {i:Nat} {k:Sta} (hk:known[i]? =some k) (hp:O7 x known i k=true):wtB (Q5 i k)=true/\k.pend=true:=by
 have h1:=(Aa.1 hk).1;have h2:=H.sta k (Av hk);have h3:=H.big;simp only[O7,Ad] at hp;rw[Gk,hp.1.1,Ci] at h2;simp only[Ad,Aq] at h2;have e1:(0:Int)<=(i:Int)/\(i:Int)<=255:=by omega
 have e2:1<=k.over+1/\k.over+1<=1099511627776:=by omega
 refine⟨by simp[wtB,Q5,e1,e2,h2],hp.1.1⟩
theorem LrnH.waitMix {a b:Nat} (hb:b<=a):D5 (qK a x known++Ea b x known)=true:=by
 obtain⟨_,h2,h3⟩:=Ft.1 H.wait;refine JL (λw hw=>?_) ?_
 ·rcases B4.1 hw with h|h
  ·exact h2 w (De.1 h).1
  ·obtain⟨i,k,_,k2,k3,rfl⟩:=Wg h;exact(H.pen k2 k3).1
 ·rw[D6,Pd];refine⟨h3.sublist (List.filter_sublist.map _),?_,λz hz z' hz' e=>?_⟩
  ·rw[List.nodup_iff_pairwise_ne,S5];exact(YH x known b).imp λhab e=>by omega
  ·subst e;obtain⟨w,hw,e1⟩:=Cd.1 hz;obtain⟨w',hw',e2⟩:=Cd.1 hz';obtain⟨i,k,k1,k2,k3,rfl⟩:=Wg hw';obtain⟨m1,m2⟩:=De.1 hw;have e3:w.site=(i:Int):=by rw[e1,<-e2];rfl
   simp only[O7,Ad,Fw,Ei,U1] at k3;rcases k3.2 with h|h
   ·rw[e3,h,show decide ((i:Int)<(a:Int))=true by simp;omega] at m2;cases m2
   ·have:=Gy.1 h.1 w m1;simp[e3] at this
theorem LrnH.qStep (ho:x.seq[k]? =some o) (hk:known[k]? =some t):qK (k+1) x known=bif decide (o<t.over) then J5 (qK k x known) k else qK k x known:=by
 have hn:=QV ho hk;cases hd:decide (o<t.over)
 ·rw[By];refine S4 λw hw=>?_;have hs:=Zx ((Ft.1 H.wait).2.1 w hw);by_cases e:w.site=(k:Int)
  ·rw[e,hn,hd];simp
  ·rw[show decide (w.site<(k+1:Nat))=decide (w.site<(k:Int)) by rw[Be];simp;omega]
 ·rw[Ci,J5,qK,qK,List.filter_filter];refine S4 λw hw=>?_;have hs:=Zx ((Ft.1 H.wait).2.1 w hw);by_cases e:w.site=(k:Int)
  ·rw[e,hn,hd,show decide ((k:Int)<(k+1:Nat))=true by simp;omega];simp
  ·rw[show decide (w.site<(k+1:Nat))=decide (w.site<(k:Int)) by rw[Be];simp;omega];simp[e]
theorem LrnH.hsStep (ho:x.seq[k]? =some o) (hk:known[k]? =some t):hsK (k+1) x known=bif decide (o<t.over) then Lz (hsK k x known) k else hsK k x known:=by
 have hn:=QV ho hk;cases hd:decide (o<t.over)
 ·rw[By];refine S4 λw hw=>?_;have hs:=Rq ((Mn.1 H.hold).1 w hw);by_cases e:w.site=(k:Int)
  ·rw[e,hn,hd];simp
  ·rw[show decide (w.site<(k+1:Nat))=decide (w.site<(k:Int)) by rw[Be];simp;omega]
 ·rw[Ci,Lz,hsK,hsK,List.filter_filter];refine S4 λw hw=>?_;have hs:=Rq ((Mn.1 H.hold).1 w hw);by_cases e:w.site=(k:Int)
  ·rw[e,hn,hd,show decide ((k:Int)<(k+1:Nat))=true by simp;omega];simp[C9,e]
  ·rw[show decide (w.site<(k+1:Nat))=decide (w.site<(k:Int)) by rw[Be];simp;omega];simp[C9,e]
theorem LrnH.seqStep (ho:x.seq[k]? =some o) (hk:known[k]? =some t):sqK (k+1) x known=bif decide (o<t.over) then(sqK k x known).set k t.over else sqK k x known:=by
 unfold sqK;rw[EC H.len ho hk];unfold upS;cases hd:decide (o<t.over)
 ·rw[By,By];refine F6 λi=>?_;rw[Kb];split
  ·rename_i e;subst e;rw[Yy H.len,Ar (Tz _),ho,Zg H.len,Bi (Aa.1 ho).1]
  ·rfl
 ·rfl
theorem LrnH.holdUse {a:Nat} (ho:x.seq[k]? =some o) (_:known[k]? =some t) {h:Hd} (hh:h∈hsK a x known) (hs:h.site=(k:Int)):h.use=o+1:=by
 have:=H.hat h (De.1 hh).1;rw[hs,Ry ho] at this;have:h.use- 1=o:=by simpa using this
 omega
theorem LrnH.learn {l:Int} (hx:Fq n l s x=true):Fq n l s (Gt x known)=true:=by
 have hK:=H;simp only[Fq,Ad,A6,Aq,Kq] at hx⊢;obtain⟨⟨⟨⟨⟨⟨⟨⟨⟨h1,h2⟩,h3⟩,h4⟩,h5⟩,h6⟩,h7⟩,h8⟩,h9⟩,h10⟩:=hx;have hseq:∀z:Int,∀u:Int,Gm x.seq z u=true->0<=z->Zj x.seq known z=false->Gm (sqK known.length x known) z u=true:=by
  intro z u hz h0 hn;obtain⟨i,rfl⟩:∃i:Nat,z=i:=⟨z.toNat,tqO⟩;have hi:i<x.seq.length:=by
   simp only[Gm,Ad,Aq] at hz;omega
  obtain⟨o,ho⟩:∃o,x.seq[i]? =some o:=⟨_,A8 hi⟩;obtain⟨t,ht⟩:∃t,known[i]? =some t:=⟨_,A8 (by rw[<-H.len];exact hi)⟩;rw[Ry ho] at hz;have:=H.seqAt (k:=known.length) ho ht;rw[Ry this];rw[QV ho ht] at hn;rw[upS,hn,By,ite_self];exact hz
 have hlt:∀z:Int,(∃u,Gm x.seq z u=true)->decide (z<(known.length:Int))=true:=by
  rintro z ⟨u,hu⟩;simp only[Gm,Ad,Aq] at hu;have:=H.len;simp;omega
 refine⟨⟨⟨⟨⟨⟨⟨⟨⟨h1,h2⟩,?_⟩,H.waitMix (Ak _)⟩,?_⟩,Vm _ h6⟩,h7⟩,λo ho=>?_⟩,λw hw=>?_⟩,λh hh=>?_⟩
 ·show ((sqK known.length x known).length:Int)=_
  rw[H.seqLen];exact H.ns
 ·exact Bf (Mq _ _) h5
 ·obtain⟨i,hi⟩:=B6.1 ho;have hil:i<known.length:=by have:=(Aa.1 hi).1;rw[show (Gt x known).seq=sqK known.length x known from I,H.seqLen] at this;exact this
  obtain⟨o',ho'⟩:∃o,x.seq[i]? =some o:=⟨_,A8 (by rw[H.len];exact hil)⟩;obtain⟨t,ht⟩:∃t,known[i]? =some t:=⟨_,A8 hil⟩;rw[show (Gt x known).seq=sqK known.length x known from I,H.seqAt ho' ht,Bi hil] at hi;cases hi;have g1:=H.use o' (Av ho');have g2:=H.sta t (Av ht);have g3:0<=t.over/\t.over<=1099511627776:=by
   rw[Gk] at g2;cases hp:t.pend<;>rw[hp] at g2<;>simp only[Ci,By,Ad,Aq] at g2<;>omega
  show Lk (upS o' t)=true
  unfold upS;cases decide (o'<t.over)
  ·simpa [Lk] using g1
  ·simpa [Lk] using g3
 ·show Gm (sqK known.length x known) w.site w.use=true/\(!(hsK known.length x known).any (C9 w.site))=true
  rcases B4.1 hw with hw|hw
  ·obtain⟨m1,m2⟩:=De.1 hw;obtain⟨g1,g2⟩:=H.qat w m1;have hs:=Zx ((Ft.1 h4).2.1 w m1);rw[hlt _ ⟨_,g1⟩,C8] at m2;refine⟨hseq _ _ g1 hs.1 (by simpa using m2),?_⟩;rw[Ei,Gy];intro y hy;exact Gy.1 g2 y (De.1 hy).1
  ·obtain⟨i,t,k1,k2,k3,rfl⟩:=Wg hw;obtain⟨o,ho⟩:∃o,x.seq[i]? =some o:=⟨_,A8 (by rw[H.len];exact k1)⟩;have hsq:=H.seqAt (k:=known.length) ho k2;rw[Bi k1] at hsq;have hp:=Aa8 (a:=known.length) (b:=0) k1 (Ax _) ho k2;rw[k3] at hp;simp only[Bool.true_eq,Ad,Aq,Ei] at hp;refine⟨?_,?_⟩
   ·show Gm _ (i:Int) (t.over+1)=true
    rw[Ry hsq];simp only[Kq];omega
   ·show (!(hsK known.length x known).any (C9 (i:Int)))=true
    rw[hp.2];rfl
 ·show Gm (sqK known.length x known) h.site h.use=true
  obtain⟨m1,m2⟩:=De.1 hh;have g1:=H.hat h m1;rw[hlt _ ⟨_,g1⟩,C8] at m2;exact hseq _ _ g1 (Rq ((Mn.1 h6).1 h m1)).1 (by simpa using m2)
end
end Go.Proofs.YtjofafbkkpdgbaaGreat
