/- A part of the proof of LockOpens: rules and contracts. No condition. -/
import Derived.WalkKit
import Derived.WalkSpells
import Derived.WalkLawsBesides
import Derived.Lib.Hide
import Derived.RangeFuncBox
import Derived.RangeFuncNested
import Derived.RangeFuncBound
import Derived.RangeFuncCalls
import Derived.RangeFuncLeaves
import Derived.OwnWalkIn
import Derived.TacticsInMore
import Derived.LoopNIn
import Derived.LoopIn
import Derived.Shelf.Abstract
import Derived.Sort.BigQuietIn
import Derived.Laws.CopyRow
import Derived.Sort.LoopGhostIn
import Derived.Laws.Tables
import Derived.OrdersIn
import Derived.RecoverIn
import Derived.Lib.MinMax
import Derived.Laws.Slices
import Derived.Laws.OwnMore
import Derived.Laws.StructEq
import Derived.KernelRfl
import Derived.ScopeJumps
import Derived.WalkMore
import Derived.Laws.Strings2
import Derived.Lib.Strings
import Derived.MapKept
import Derived.Laws.Build
import Derived.Great.BuildSlice
import Derived.Lib.AppendZerosOnto
import Derived.Lib.Overlaps
import Derived.ProofKit
import Derived.Lib.SmallJoins
import Derived.Deep.Slices
set_option linter.all false
namespace Go.Proofs.YtjofafbkkpdgbaaGreat
open Go.RowKit
def A6:=@List.all_eq_true
def A8:=@List.getElem?_eq_getElem
def Aa:=@List.getElem?_eq_some_iff
def Ad:=@Bool.and_eq_true
def Ak:=@Nat.le_refl
def Am:=@List.length_take
def An:=@Go.Result.andThen_ok
def Ap:=@List.mem_cons
def Aq:=@decide_eq_true_eq
def Ar:=@if_neg
def At:=@Go.run_underlying
def Av:=@List.mem_of_getElem?
def Aw:=@Nat.lt_of_lt_of_le
def Ax:=@Nat.zero_le
def Az:=@List.length_append
def B3:=@List.mem_cons_of_mem
def B4:=@List.mem_append
def B5:=@Array.getElem?_eq_some_iff
def B6:=@List.mem_iff_getElem?
def B7:=@Option.some.injEq
def Ba:=@Go.Sem.run_bind
def Bc:=@List.mem_singleton
def Be:=@Bool.eq_iff_iff
def Bf:=@Nat.le_trans
def Bg:=@Nat.lt_succ_iff_lt_or_eq
def Bh:=@Go.Sem.run_pure
def Bi:=@if_pos
def Bj:=@List.map_cons
def Bl:=@Nat.zero_add
def Bn:=@List.length_drop
def Bo:=@Bool.eq_false_iff
def Bp:=@Array.getD_eq_getD_getElem?
def Bq:=@Nat.eq_of_beq_eq_true
def Bu:=@List.append_nil
def Bw:=@List.not_mem_nil
def By:=@cond_false
def C0:=@List.take_append_of_le_length
def C1:=@Nat.min_eq_left
def C8:=@Bool.true_and
def Cc:=@Go.DataW.trod_int
def Cd:=@List.mem_map
def Cg:=@List.getElem?_eq_none
def Ch:=@List.mem_append_right
def Ci:=@cond_true
def Cj:=@List.length_replicate
def Cn:=@Array.ext'
def Cp:=@List.append_assoc
def Cq:=@List.getElem?_map
def Cr:=@List.length_map
def Cs:=@List.nil_append
def Ct:=@List.length_cons
def Cy:=@Nat.le_of_ble_eq_true
def D0:=@Nat.mul_le_mul_right
def D1:=@List.getD_eq_getElem?_getD
def D3:=@List.take_length
def D4:=@decide_eq_true
def D6:=@List.map_append
def Db:=@List.getElem?_take_of_lt
def De:=@List.mem_filter
def Df:=@Go.Proofs.enters_of
def Di:=@Array.toList_map
def Dl:=@List.take_add_one
def Dm:=@List.take_of_length_le
def Dn:=@Option.map_eq_some_iff
def Dp:=@List.getElem?_append_right
def Dr:=@Go.lt_of_block
def Ds:=@List.pairwise_iff_getElem
def Dz:=@Array.getElem?_setIfInBounds_ne
def E0:=@List.eq_nil_of_length_eq_zero
def E1:=@List.flatMap_cons
def E2:=@List.cons_append
def E3:=@List.getElem?_drop
def E4:=@List.map_nil
def E6:=@Go.World.alloc_heap_new
def E9:=@List.size_toArray
def Eb:=@Nat.add_zero
def Ed:=@or_false
def Ei:=@Bool.not_eq_true'
def Ej:=@Int.toNat_natCast
def Em:=@List.flatMap_append
def Eo:=@List.getElem?_append_left
def Ep:=@List.length_nil
def Er:=@List.mem_append_left
def Es:=@Nat.beq_eq
def Ew:=@Bool.cond_eq_ite
def F6:=@List.ext_getElem?
def F7:=@List.mem_cons_self
def Fb:=@congrArg
def Fl:=@Nat.add_mul
def Fm:=@Go.Lib.hid
def Fo:=@Go.Lib.run_eql_slice_nil
def Fp:=@List.map_map
def Fu:=@Array.replicate_succ
def Fv:=@Array.replicate_zero
def Fw:=@Bool.or_eq_true
def Fy:=@Nat.le_of_eq
def Fz:=@Go.callsIn_wide
def G4:=@Go.callsDIn_of_wpSIn
def G6:=@Nat.ble_eq
def Ga:=@Go.RowKit.Below.refl
def Gb:=@Go.World.putObj_heap_other
def Gc:=@decide_eq_false_iff_not
def Gd:=@List.append_toArray
def Gf:=@Option.map_some
def Gg:=@decide_eq_false
def Gp:=@List.take_append_drop
def Gq:=@List.take_take
def Gr:=@Nat.blt_eq
def Gv:=@List.map_congr_left
def Gw:=@Go.RowKit.Below.heap_alloc
def Gy:=@List.any_eq_false
def Gz:=@List.push_toArray
def H7:=@List.drop_eq_getElem_cons
def H9:=@Go.wpIn_wide
def Hb:=@Bool.false_and
def Hc:=@List.mem_range
def Hi:=@List.filter_eq_self
def Hu:=@Bool.false_eq_true
def Hv:=@Int.natCast_nonneg
def Hw:=@List.pairwise_append
def Hy:=@List.drop_of_length_le
def Hz:=@Option.getD_some
def Ic:=@List.getElem?_toArray
def Id:=@Nat.succ_mul
def If:=@if_true
def Ih:=@List.all_append
def Ii:=@List.findIdx?_eq_some_iff_getElem
def Ij:=@Option.some.inj
def Ip:=@List.getElem?_cons_succ
def Iq:=@Array.getElem?_append_left
def Ir:=@List.map_take
def Iw:=@Go.wpSIn_of_wpIn
def Ix:=@List.eraseIdx_eq_take_drop_succ
def J2:=@Go.run_program
def J3:=@Array.mem_toList_iff
def Jr:=@List.any_eq_true
def Js:=@List.filter_append
def Jt:=@List.mem_flatMap
def Jy:=@Go.wpSIn_region
def Jz:=@Bool.not_true
def K4:=@Option.isSome_none
def K8:=@Array.getElem?_eq_getElem
def Kb:=@List.getElem?_set
def Kc:=@Go.World.ownsRow_nil
def Kf:=@of_decide_eq_true
def Kh:=@Option.map_none
def Kj:=@Array.length_toList
def Kk:=@Array.toList_append
def Kl:=@Nat.ne_of_beq_eq_false
def Km:=@Nat.ne_of_lt
def Ko:=@List.map_drop
def Kq:=@beq_iff_eq
def Ky:=@Bool.and_eq_false_iff
def Kz:=@List.getElem?_take
def L4:=@List.length_zipWith
def L6:=@Bool.and_false
def L7:=@List.filter_cons
def L8:=@List.map_toArray
def Le:=@Nat.sub_self
def Ll:=@Function.comp_def
def Ln:=@Go.run_sliceAt_slice
def Lo:=@Go.run_storeCells_at
def Lt:=@List.drop_append_of_le_length
def Lu:=@List.all_eq_not_any_not
def Lw:=@List.getElem?_cons_zero
def Lx:=@Nat.add_sub_cancel_left
def M0:=@List.length_range
def M7:=@Go.wpList_append_own
def M8:=@Array.toArray_toList
def M9:=@List.mem_of_find?_eq_some
def Mk:=@Go.CallsIn.mono
def Ml:=@Go.World.ownsRow_made
def Mp:=@Go.wpSIn_seq
def Mq:=@List.length_filter_le
def Mr:=@List.length_set
def Mu:=@if_false
def Mz:=@List.findIdx_cons
def N0:=@Nat.add_sub_cancel'
def N6:=@beq_eq_false_iff_ne
def N7:=@Go.callsIn_of_wp_marks
def Na:=@Option.isNone_iff_eq_none
def Nf:=@Go.size_setRow
def Nj:=@List.flatMap_nil
def Nk:=@Nat.add_comm
def Nl:=@Nat.lt_succ_self
def Nn:=@Option.isSome_iff_exists
def Oe:=@Nat.eq_zero_or_pos
def Oy:=@List.drop_eq_nil_of_le
def Oz:=@Go.World.putObj_heap_same
def P5:=@Go.RowKit.Below.drew
def P7:=@List.getElem_inj
def Pd:=@List.nodup_append
def Pg:=@Go.Act.put_comm
def Ph:=@Int.mul_le_mul
def Pi:=@List.set_append_right
def Pj:=@Nat.lt_or_ge
def Pk:=@Nat.testBit_or
def Pr:=@Go.setRow_other
def Pt:=@List.drop_length_add_append
def Pu:=@Nat.testBit_two_pow_sub_one
def Q1:=@List.getElem?_range
def Q2:=@List.take_succ_cons
def Q6:=@Int.natCast_mul
def Q7:=@List.cons.injEq
def Qk:=@Go.RowKit.Below.setCell
def Ql:=@List.cons.inj
def Qr:=@Nat.min_def
def Qy:=@Go.setRow_heap
def R7:=@Go.run_loadCells_list
def Rc:=@List.find?_eq_none
def Rd:=@Option.isSome_some
def S3:=@Int.eq_ofNat_of_zero_le
def S4:=@List.filter_congr
def S5:=@List.pairwise_map
def S6:=@Option.mem_toList
def Sa:=@Int.mul_nonneg
def Sb:=@List.drop_drop
def Sc:=@List.mapM_cons
def Se:=@Nat.mul_le_mul
def Sk:=@Go.growslice_fits
def Sy:=@Go.size_zeroCells
def T3:=@Go.Oper.semAt_eq
def T4:=@Go.callsIn_of_wp
def T6:=@Go.wpListIn_step
def T8:=@Go.IntKind.wrap_i64
def T9:=@List.drop_append
def Td:=@Go.run_equalIn_bool'
def Tf:=@Array.getElem?_eq_none
def Tg:=@Go.RowKit.Below.alloc
def Th:=@Go.MapKept.run_getObj_map
def Ti:=@Go.below_drewN
def Tu:=@Bool.and_self
def Tv:=@Bool.and_true
def Tw:=@Bool.false_or
def Ty:=@Nat.add_assoc
def Tz:=@Nat.lt_irrefl
def U1:=@Bool.or_eq_false_iff
def U2:=@Go.DataW.trod_bool
def U3:=@Int.ofNat_eq_natCast
def U4:=@List.find?_some
def U5:=@List.length_eraseIdx
def Ua:=@List.getElem_mem
def Ub:=@List.take_append
def Uc:=@Nat.le_of_not_lt
def Ud:=@Option.bind_some
def Uf:=@Go.World.size_alloc
def Ut:=@Ne.symm
def V0:=@Int.toNat_of_nonneg
def V1:=@List.mem_map_of_mem
def V2:=@List.replicate_succ
def V3:=@List.toList_toArray
def V4:=@Nat.testBit_two_pow
def Vn:=@Go.info_parts
def W3:=@Go.grownCap_ge
def Wr:=@Go.wpIn_rangeFunc
def Ws:=@Nat.mul_pos
def Wv:=@Nat.one_mul
def Xb:=@Array.toList_range
def Xc:=@Int.tmod_lt_of_pos
def Xd:=@List.pairwise_cons
def Xe:=@List.set_cons_succ
def Xf:=@Nat.add_sub_cancel
def Xg:=@Nat.pos_of_ne_zero
def Xh:=@and_assoc
def Xn:=@of_decide_eq_false
def Xx:=@Go.CallsDIn.mono
def Xz:=@List.all_cons
theorem I {α:Sort _} {a:α}:a=a:=rfl
theorem I2 {A B:Sort _} {a:A} {b:B}:a=a/\b=b:=⟨rfl,rfl⟩
variable {C:Sort _} {c:C}
theorem I3 {A B:Sort _} {a:A} {b:B}:a=a/\b=b/\c=c:=⟨rfl,rfl,rfl⟩
variable {D:Sort _}
theorem I4 {A B:Sort _} {a:A} {b:B} {d:D}:a=a/\b=b/\c=c/\d=d:=⟨rfl,rfl,rfl,rfl⟩
variable {E:Sort _}
theorem I5 {A B:Sort _} {a:A} {b:B} {d:D} {e:E}:a=a/\b=b/\c=c/\d=d/\e=e:=⟨rfl,rfl,rfl,rfl,rfl⟩
theorem I6 {A B F:Sort _} {a:A} {b:B} {d:D} {e:E} {f:F}:a=a/\b=b/\c=c/\d=d/\e=e/\f=f:=⟨rfl,rfl,rfl,rfl,rfl,rfl⟩
theorem I7 {A B F G:Sort _} {a:A} {b:B} {d:D} {e:E} {f:F} {g:G}:a=a/\b=b/\c=c/\d=d/\e=e/\f=f/\g=g:=⟨rfl,rfl,rfl,rfl,rfl,rfl,rfl⟩
theorem I8 {A B F G H:Sort _} {a:A} {b:B} {d:D} {e:E} {f:F} {g:G} {h:H}:a=a/\b=b/\c=c/\d=d/\e=e/\f=f/\g=g/\h=h:=⟨rfl,rfl,rfl,rfl,rfl,rfl,rfl,rfl⟩
variable {P:Prop}
theorem tqA (h:P:=by repeat' (first|exact trivial|exact Or.inl rfl|refine Or.inr ⟨?_,?_⟩|rfl|refine⟨?_,?_⟩|exact Aow)):P:=h
theorem tqB (h:P:=by repeat' (first|exact trivial|refine⟨Or.inl rfl,?_⟩|refine⟨Or.inr ⟨rfl,Nat.le_of_ble_eq_true rfl,_,rfl,rfl,rfl⟩,?_⟩)):P:=h
theorem tqI (h:P:=by repeat' (first|exact trivial|rfl|refine⟨?_,?_⟩|exact Aow|exact(congrArg some Aac.symm)|omega)):P:=h
theorem tqC (h:P:=by first|decide|(rw[Ey]<;>omega)|(dsimp only;rw[Ey]<;>omega)):P:=h
theorem tqM (h:P:=by simp only[maxLen];omega):P:=h
theorem tqP (h:P:=by first|omega|(dsimp only;omega)):P:=h
theorem tqS (h:P:=by simp):P:=h
theorem tqO (h:P:=by omega):P:=h
theorem tqK (h:P:=by kernel_rfl):P:=h
theorem tqZ (h:P:=by rw[Nat.zero_add]):P:=h
theorem tqD (h:P:=by decide):P:=h
theorem tqH (h:P:=by rintro e cs F1 ⟨_,rfl⟩;rfl):P:=h
theorem tqF (h:P:=by first|(simp;done)|exact λf hf=>hf):P:=h
theorem tqE (h:P:=by exact Al [] I2 λ_=>⟨rfl,rfl⟩):P:=h
theorem tqq {A B C:Prop} (c:C) (a:A:=by exact⟨.inr ⟨rfl,Nat.le_of_ble_eq_true rfl,_,rfl,rfl,rfl⟩,trivial⟩) (b:B:=by simp):(A/\B)/\C:=⟨⟨a,b⟩,c⟩
theorem tqQ {A B C:Prop} (c:C) (a:A:=by repeat' (first|exact trivial|refine⟨Or.inl rfl,?_⟩|refine⟨Or.inr ⟨rfl,Nat.le_of_ble_eq_true rfl,_,rfl,rfl,rfl⟩,?_⟩)) (b:B:=by simp):(A/\B)/\C:=⟨⟨a,b⟩,c⟩
theorem Bx {a b:Bool} (h:a=b):Ending.returned (.bool a)=.returned (.bool b):=by rw[h]
variable {α:Type}
def Sl (enc:α->List Value) (k:Nat) (w:World) (v:Value) (xs:List α):Prop:=
 ∃(a:Option Addr) (cap:Nat),v=.slice a xs.length cap/\(xs.length<=cap/\(a=none->cap=0))/\
  (xs=[]\/∃b off,a=some ⟨b,off,none⟩/\b<w.heap.size/\∀i x,xs[i]? =some x->∀j u,(enc x)[j]? =some u->w.cell? ⟨b,off+i*k+j,none⟩=some u)
variable {enc:α->List Value} {k:Nat} {v:Value} {w:World} {xs:List α}
theorem Sl.below {w':World} (h:Sl enc k w v xs) (hb:Below w.heap.size w w'):Sl enc k w' v xs:=by
 obtain⟨a,cap,hv,hc,h⟩:=h;refine⟨a,cap,hv,hc,?_⟩;rcases h with h|⟨b,off,ha,hlt,hcell⟩
 ·exact .inl h
 ·refine .inr ⟨b,off,ha,Aw hlt hb.size,λi x hx j u hu=>?_⟩;exact(hb.cell (p:=⟨b,off+i*k+j,none⟩) hlt).trans (hcell i x hx j u hu)
theorem Sl.nil (enc:α->List Value) (k:Nat) (w:World):Sl enc k w (.slice none 0 0) []:=⟨none,0,I,⟨Ax _,λ_=>I⟩,.inl I⟩
theorem Sl.of_owns {base:Nat} {e:TypeId}
  (hk:∀x,(enc x).length=k) (h:w.ownsRow base e k v xs.length (xs.flatMap enc)):Sl enc k w v xs:=by
 rcases h.2 with ⟨rfl,h0⟩|⟨g,cap,cur,rfl,hb,hg,hn,hm,hs,ht⟩
 ·have:xs=[]:=List.length_eq_zero_iff.1 h0;subst this;exact⟨none,0,I,⟨Ak _,λ_=>I⟩,.inl I⟩
 ·refine⟨_,cap,I,⟨hn,λh=>by cases h⟩,.inr ⟨g,0,I,(B5.1 hg).1,λi x hx j u hu=>?_⟩⟩;have hcell:=h.cells (g:=g) (by simp[Value.ownBlock]) (i*k+j) u ?_
  ·have e1:((⟨g,0,none⟩:Addr).add (i*k+j))=⟨g,0+i*k+j,none⟩:=by
    unfold Addr.add;split
    ·simp_all
    ·simp
   rw[e1] at hcell;exact hcell
  ·have key:∀(l:List α) (i:Nat) (x:α),l[i]? =some x->(enc x)[j]? =some u->(l.flatMap enc)[i*k+j]? =some u:=by
    intro l;induction l with
    |nil=>intro i x hx;simp at hx
    |cons y l ih=>
     intro i x hx hu;have hj:j<k:=by rw[<-hk x];exact(Aa.1 hu).1
     cases i with
     |zero=>
      simp only[Lw,B7] at hx;subst hx;rw[E1,Eo (by rw[hk];omega)];simpa using hu
     |succ i=>
      rw[Ip] at hx;rw[E1,Dp (by rw[hk,Id];omega),hk];have:(i+1)*k+j- k=i*k+j:=by rw[Id];omega
      rw[this];exact ih i x hx hu
   exact key xs i x hx hu
def Bt (x:Int):List Value:=[.int .i64 x]
theorem RU (x:Int):(Bt x).length=1:=rfl
theorem Ajx (hk:∀x,(enc x).length=k):∀(l:List α) (m:Nat) (u:Value),(l.flatMap enc)[m]? =some u->
  ∃i j x,m=i*k+j/\l[i]? =some x/\(enc x)[j]? =some u:=by
 intro l;induction l with
 |nil=>intro m u h;simp at h
 |cons y l ih=>
  intro m u h;rw[E1] at h;by_cases hm:m<k
  ·rw[Eo (by rw[hk];exact hm)] at h;exact⟨0,m,y,tqO,I,h⟩
  ·rw[Dp (by rw[hk];omega),hk] at h;obtain⟨i,j,x,e,hx,hu⟩:=ih _ _ h;exact⟨i+1,j,x,by rw[Id];omega,by simpa using hx,hu⟩
theorem Qv (hk:∀x,(enc x).length=k) (l:List α):(l.flatMap enc).length=l.length*k:=by
 induction l with
 |nil=>simp
 |cons y l ih=>rw[E1,Az,ih,hk,Ct,Id];omega
variable {n:Nat}
theorem Sl.news (hk:∀x,(enc x).length=k) {ad:Addr} {c:Nat} (h:Sl enc k w (.slice (some ad) n c) xs):
  ∀m u,(xs.flatMap enc)[m]? =some u->w.cell? (ad.add m)=some u:=by
 intro m u hm;obtain⟨i,j,x,e,hx,hu⟩:=Ajx hk xs m u hm;obtain⟨a,cap,hv,_,h⟩:=h;cases hv;rcases h with h|⟨b,off,ha,hlt,hc⟩
 ·subst h;simp at hx
 ·cases ha;have:=hc i x hx j u hu;have e1:((⟨b,off,none⟩:Addr).add m)=⟨b,off+i*k+j,none⟩:=by
   subst e;unfold Addr.add;split
   ·simp_all
   ·simp[Ty]
  rw[e1];exact this
theorem Sl.nil_of_none {c:Nat} (h:Sl enc k w (.slice none n c) xs):xs=[]:=by
 obtain⟨a,cap,hv,_,h⟩:=h;cases hv;rcases h with h|⟨b,off,ha,_⟩
 ·exact h
 ·cases ha
theorem Sl.nil_cap {c:Nat} (h:Sl enc k w (.slice none n c) xs):n=0/\c=0:=by
 have h0:=h.nil_of_none;obtain⟨a,cap,hv,hc,h⟩:=h;cases hv;subst h0;exact⟨I,hc.2 I⟩
theorem Agm {xs:List Int}:∀u∈xs.flatMap Bt,u.oneCell'=true:=by
 intro u hu;simp only[Jt,Bt,Bc] at hu;obtain⟨x,_,rfl⟩:=hu;rfl
theorem BD {b:Nat} {v0:Value} {t:TypeId} (h:w.heap[b]? =some (.cells #[v0] t (0,0))):w.cell? ⟨b,0,none⟩=some v0/\∀i,w.frozen? ⟨b,i,none⟩=false:=by
 refine⟨by simp[World.cell?,h],λi=>by simp[World.frozen?,h]⟩
theorem A9 (h:k<xs.length:=by exact tqO):∃x,xs[k]? =some x:=⟨_,A8 h⟩
theorem Sl.shape (h:Sl enc k w v xs):∃a cap,v=.slice a xs.length cap:=by
 obtain⟨a,cap,hv,_⟩:=h;exact⟨a,cap,hv⟩
def Tch (A:Nat) (r:Option Nat) (W W':World):Prop:=W.heap.size<=W'.heap.size/\∀b,b<W.heap.size->b≠A->some b≠r->W'.heap[b]? =W.heap[b]?
theorem Tch.refl (A:Nat) (r:Option Nat) (W:World):Tch A r W W:=⟨Ak _,λ_ _ _ _=>I⟩
variable {A:Nat} {W W':World} {r:Option Nat}
theorem Tch.drew (h:Tch A r W W'):Tch A r W W'.drew:=h
theorem Tch.alloc (h:Tch A r W W') (o:Obj):Tch A r W (W'.alloc o):=
 ⟨Bf h.1 tqS,λb hb h1 h2=>(Gw W' o b (Aw hb h.1)).trans (h.2 b hb h1 h2)⟩
theorem Tch.setCell (h:Tch A r W W') {p:Addr} (hp:p.block=A\/W.heap.size<=p.block) (u:Value):Tch A r W (W'.setCell p u):=
 ⟨by rw[World.size_setCell];exact h.1,λb hb h1 h2=>(Below.heap_setCell W' p u b tqO).trans (h.2 b hb h1 h2)⟩
theorem Tch.grown {W'':World} (h:Tch A r W W') (hg:W'.grownBy W'' r):Tch A r W W'':=
 ⟨Bf h.1 hg.size,λb hb h1 h2=>(hg.block b (Aw hb h.1) h2).trans (h.2 b hb h1 h2)⟩
theorem Tch.below {W'':World} (h:Tch A r W W') (hb:Below W'.heap.size W' W''):Tch A r W W'':=
 ⟨Bf h.1 hb.size,λb hb' h1 h2=>(hb.block b (Aw hb' h.1)).trans (h.2 b hb' h1 h2)⟩
theorem Tch.trans {r':Option Nat} {W'':World} (h:Tch A r W W') (h':Tch A r' W' W'') (hr:∀k,r'=some k->W.heap.size<=k\/r'=r):Tch A r W W'':=
 ⟨Bf h.1 h'.1,λb hb h1 h2=>(h'.2 b (Aw hb h.1) h1 (λe=>by
  rcases hr b e.symm with h3|h3
  ·omega
  ·exact h2 (e.trans h3))).trans (h.2 b hb h1 h2)⟩
theorem Tch.blk (h:Tch A r W W') {b:Nat} {o:Obj} (ho:W.heap[b]? =some o) (h1:b≠A) (h2:some b≠r):W'.heap[b]? =some o:=
 (h.2 b (Dr ho) h1 h2).trans ho
theorem Tch.own (h:Tch A r W W') {base:Nat} {e:TypeId} {xs:List Value} (ho:W.ownsRow base e k v n xs) (hA:A<base) (hr:v.ownBlock=none\/v.ownBlock≠r):W'.ownsRow base e k v n xs:=by
 refine⟨ho.1,?_⟩;rcases ho.2 with h2|⟨g,cap,cur,rfl,hg,hh,rest⟩
 ·exact .inl h2
 ·refine .inr ⟨g,cap,cur,I,hg,h.blk hh tqO ?_,rest⟩;simpa [Value.ownBlock] using hr
theorem Tch.sl {W0:World} (h:Sl enc k W0 v xs) (hb:Below W0.heap.size W0 W) (ht:Tch A none W W') (hA:W0.heap.size<=A):Sl enc k W' v xs:=by
 obtain⟨a,cap,hv,hc,h⟩:=h;refine⟨a,cap,hv,hc,?_⟩;rcases h with h|⟨b,off,ha,hlt,hcell⟩
 ·exact .inl h
 ·have hW:=Aw hlt hb.size;refine .inr ⟨b,off,ha,Aw hW ht.1,λi x hx j u hu=>?_⟩;rw[World.cell?_of_block (w:=W) (ht.2 b hW tqO tqS)];exact(hb.cell (p:=⟨b,off+i*k+j,none⟩) hlt).trans (hcell i x hx j u hu)
open Go.Shelf
structure Rnd (lo hi:Nat) (W W':World):Prop where
 os:W'.os=W.os
 tape:W'.tape=W.tape
 output:W'.output=W.output
 size:W.heap.size<=W'.heap.size
 block:∀b,b<W.heap.size->(b<lo\/hi<=b)->W'.heap[b]? =W.heap[b]?
theorem Rnd.refl (lo hi:Nat) (W:World):Rnd lo hi W W:=⟨I,I,I,Ak _,λ_ _ _=>I⟩
variable {B:World} {hi lo:Nat}
theorem Rnd.trans {A C:World} (h:Rnd lo hi A B) (k:Rnd lo hi B C):Rnd lo hi A C:=
 ⟨k.os.trans h.os,k.tape.trans h.tape,k.output.trans h.output,Bf h.size k.size,λb hb hc=>(k.block b (Aw hb h.size) hc).trans (h.block b hb hc)⟩
theorem Rnd.alloc {A:World} (h:Rnd lo hi A B) (o:Obj):Rnd lo hi A (B.alloc o):=
 ⟨h.os,h.tape,h.output,Bf h.size tqS,λb hb hc=>(Gw B o b (Aw hb h.size)).trans (h.block b hb hc)⟩
theorem Rnd.drew {A:World} (h:Rnd lo hi A B):Rnd lo hi A B.drew:=⟨h.os,h.tape,h.output,h.size,h.block⟩
theorem Rnd.setCell {A:World} (h:Rnd lo hi A B) {p:Addr} (hp:(lo<=p.block/\p.block<hi)\/A.heap.size<=p.block) (u:Value):Rnd lo hi A (B.setCell p u):=
 ⟨h.os,h.tape,h.output,by rw[World.size_setCell];exact h.size,λb hb hc=>(Below.heap_setCell B p u b tqO).trans (h.block b hb hc)⟩
theorem Rnd.below {A C:World} (h:Rnd lo hi A B) (k:Below B.heap.size B C):Rnd lo hi A C:=
 ⟨k.os.trans h.os,k.tape.trans h.tape,k.output.trans h.output,Bf h.size k.size,λb hb hc=>(k.block b (Aw hb h.size)).trans (h.block b hb hc)⟩
theorem Rnd.of_below {A:World} (k:Below A.heap.size A B):Rnd lo hi A B:=(Rnd.refl lo hi A).below k
theorem Rnd.keep {A:World} (h:Rnd lo hi A B) {b:Nat} {o:Obj} (ho:A.heap[b]? =some o) (hb:b<lo\/hi<=b):B.heap[b]? =some o:=
 (h.block b (Dr ho) hb).trans ho
theorem Rnd.grown {A C:World} {row:Option Nat} (h:Rnd lo hi A B) (hg:B.grownBy C row) (hr:∀g,row=some g->A.heap.size<=g\/(lo<=g/\g<hi)):Rnd lo hi A C:=
 ⟨hg.os.trans h.os,hg.tape.trans h.tape,hg.output.trans h.output,Bf h.size hg.size,λb hb hc=>(hg.block b (Aw hb h.size) (λe=>by have:=hr b e.symm;omega)).trans (h.block b hb hc)⟩
def Zz (n0:Nat) (W W':World):Prop:=W'.heap.size=W.heap.size/\Below n0 W W'/\∀(b:Nat) (o:Obj),W.heap[b]? =some o->o.isCells=true->W'.heap[b]? =some o
theorem Zz.refl (n0:Nat) (W:World):Zz n0 W W:=⟨I,Ga _ _,λ_ _ h _=>h⟩
theorem Zz.blk {n0:Nat} (h:Zz n0 W W') {b:Nat} {cs:Array Value} {t:TypeId} {f:Nat×Nat} (hb:W.heap[b]? =some (.cells cs t f)):W'.heap[b]? =some (.cells cs t f):=h.2.2 b _ hb I
def SlF (lo hi:Nat) (enc:α->List Value) (k:Nat) (w:World) (v:Value) (xs:List α):Prop:=
 ∃(a:Option Addr) (cap:Nat),v=.slice a xs.length cap/\(xs.length<=cap/\(a=none->cap=0))/\
  (xs=[]\/∃b off,a=some ⟨b,off,none⟩/\b<w.heap.size/\(b<lo\/hi<=b)/\∀i x,xs[i]? =some x->∀j u,(enc x)[j]? =some u->w.cell? ⟨b,off+i*k+j,none⟩=some u)
theorem SlF.sl (h:SlF lo hi enc k w v xs):Sl enc k w v xs:=by
 obtain⟨a,cap,hv,hc,h⟩:=h;refine⟨a,cap,hv,hc,?_⟩;rcases h with h|⟨b,off,ha,hlt,_,hcell⟩
 ·exact .inl h
 ·exact .inr ⟨b,off,ha,hlt,hcell⟩
theorem SlF.of_owns {base:Nat} {e:TypeId}
  (hk:∀x,(enc x).length=k) (h:w.ownsRow base e k v xs.length (xs.flatMap enc)) (hb:hi<=base):SlF lo hi enc k w v xs:=by
 have hS:=Sl.of_owns hk h;have hv:∀g,v.ownBlock=some g->base<=g:=by
  intro g hg;rcases h.2 with ⟨rfl,_⟩|⟨g',cap,cur,rfl,hb,hh,_⟩
  ·simp[Value.ownBlock] at hg
  ·simp only[Value.ownBlock,B7] at hg;subst hg;exact hb
 have hform:∀b off n c,v=.slice (some ⟨b,off,none⟩) n c->v.ownBlock=some b:=by
  intro b off n c e;rcases h.2 with ⟨h0,_⟩|⟨g',cap,cur,h0,_⟩
  ·rw[h0] at e;cases e
  ·rw[h0] at e;cases e;rw[h0];rfl
 obtain⟨a,cap,hv',hc,h'⟩:=hS;refine⟨a,cap,hv',hc,?_⟩;rcases h' with h'|⟨b,off,ha,hlt,hcell⟩
 ·exact .inl h'
 ·refine .inr ⟨b,off,ha,hlt,.inr ?_,hcell⟩;subst ha;have:=hv b (hform b off _ _ hv');omega
theorem VQ {P:Program} {Q:Exit->Act->World->Prop} {a:Act} {c:Code} (h:c.wpIn Fence.wide n P (Exit.noGoto Q) a w):(Code.scope c).wpIn Fence.wide n P Q a w:=
 H9.2 (wp_scope_straight (H9.1 h))
end Go.Proofs.YtjofafbkkpdgbaaGreat
