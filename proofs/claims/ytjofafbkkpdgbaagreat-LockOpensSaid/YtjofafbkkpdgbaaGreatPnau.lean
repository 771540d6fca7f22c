/- A part of the proof of LockOpens: rules and contracts. No condition. -/
import Derived.Test.YtjofafbkkpdgbaaGreatPnai
set_option maxRecDepth 100000
set_option maxHeartbeats 4000000
set_option linter.all false
namespace Go.Proofs.YtjofafbkkpdgbaaGreat
open Go.Proofs.Tryz
open Go.RowKit Go.Shelf
theorem RG:Jh prog 21:=by
 intro n pe K lb w;have hn:∀w:World,(binOp .neq 20 .nilIface .nilIface).run prog w=.ok (.bool false) w:=λ_=>by kernel_rfl
 refine G4 func21 I trivial λc₀ cs hu=>?_;simp only[ntmps21,E9,Ct,Ep,Nat.reduceAdd,Nat.reduceSub,Fu,Fv,Gz,Gd,Cs,E2];apply Mp;apply Jy;simp[wpOpsSIn,go_sem,recoverD,hu,Exit.thenS];refine Iw I (H9.2 ?_);generalize hQ:(λe a' w'=>bodyPostS _ _ _ _ _ e a' _ w')=Q;have HQ:=Fm hQ;clear hQ
 go_wp2
 rw[<-HQ.out];cases c₀;simp_all [bodyPostS,results,results21]
theorem ZE:Ld prog 21 45 45:=by
 intro nn pe K lb n older w R hnn hE hK hR;have hn:∀(w:World) (n:Int),(binOp .neq 20 (.iface 45 (.int .i64 n)) .nilIface).run prog w=.ok (.bool true) w:=λ_ _=>by kernel_rfl
 have ht:∀(w:World) (n:Int),(Instr.typeAssert (.iface 45 (.int .i64 n)) 20 45 true).run prog w=.ok (.tuple #[.int .i64 n,.bool true]) w:=λ_ _=>by kernel_rfl
 have eK:∀args w,(callFunc K args).run prog w=.ok (.enter K args) w:=hE;refine G4 func21 I trivial λc₀ cs hu=>?_;simp only[ntmps21,E9,Ct,Ep,Nat.reduceAdd,Nat.reduceSub,Fu,Fv,Gz,Gd,Cs,E2];apply Mp;apply Jy;simp[wpOpsSIn,go_sem,recoverD,hu,Exit.thenS];refine Iw I (H9.2 ?_);generalize hQ:(λe a' w'=>bodyPostS _ _ _ _ _ e a' _ w')=Q;have HQ:=Fm hQ;clear hQ
 go_wp2_with fail
 refine hK.mono ?_;rintro e w1 ⟨rfl,hr⟩;obtain⟨v,hv⟩:=hR w1 hr;have c1:=BD hv
 go_wp2
 rw[<-HQ.out];cases c₀;simp_all [bodyPostS,results,results21]
 exact⟨w1,hr,I⟩
theorem RH:Jh prog 108:=by
 intro n pe K lb w;have hn:∀w:World,(binOp .neq 20 .nilIface .nilIface).run prog w=.ok (.bool false) w:=λ_=>by kernel_rfl
 refine G4 func108 I trivial λc₀ cs hu=>?_;simp only[ntmps108,E9,Ct,Ep,Nat.reduceAdd,Nat.reduceSub,Fu,Fv,Gz,Gd,Cs,E2];apply Mp;apply Jy;simp[wpOpsSIn,go_sem,recoverD,hu,Exit.thenS];refine Iw I (H9.2 ?_);generalize hQ:(λe a' w'=>bodyPostS _ _ _ _ _ e a' _ w')=Q;have HQ:=Fm hQ;clear hQ
 go_wp2
 rw[<-HQ.out];cases c₀;simp_all [bodyPostS,results,results108]
theorem ZF:Ld prog 108 45 45:=by
 intro nn pe K lb n older w R hnn hE hK hR;have hn:∀(w:World) (n:Int),(binOp .neq 20 (.iface 45 (.int .i64 n)) .nilIface).run prog w=.ok (.bool true) w:=λ_ _=>by kernel_rfl
 have ht:∀(w:World) (n:Int),(Instr.typeAssert (.iface 45 (.int .i64 n)) 20 45 true).run prog w=.ok (.tuple #[.int .i64 n,.bool true]) w:=λ_ _=>by kernel_rfl
 have eK:∀args w,(callFunc K args).run prog w=.ok (.enter K args) w:=hE;refine G4 func108 I trivial λc₀ cs hu=>?_;simp only[ntmps108,E9,Ct,Ep,Nat.reduceAdd,Nat.reduceSub,Fu,Fv,Gz,Gd,Cs,E2];apply Mp;apply Jy;simp[wpOpsSIn,go_sem,recoverD,hu,Exit.thenS];refine Iw I (H9.2 ?_);generalize hQ:(λe a' w'=>bodyPostS _ _ _ _ _ e a' _ w')=Q;have HQ:=Fm hQ;clear hQ
 go_wp2_with fail
 refine hK.mono ?_;rintro e w1 ⟨rfl,hr⟩;obtain⟨v,hv⟩:=hR w1 hr;have c1:=BD hv
 go_wp2
 rw[<-HQ.out];cases c₀;simp_all [bodyPostS,results,results108]
 exact⟨w1,hr,I⟩
theorem RI:Jh prog 132:=by
 intro n pe K lb w;have hn:∀w:World,(binOp .neq 20 .nilIface .nilIface).run prog w=.ok (.bool false) w:=λ_=>by kernel_rfl
 refine G4 func132 I trivial λc₀ cs hu=>?_;simp only[ntmps132,E9,Ct,Ep,Nat.reduceAdd,Nat.reduceSub,Fu,Fv,Gz,Gd,Cs,E2];apply Mp;apply Jy;simp[wpOpsSIn,go_sem,recoverD,hu,Exit.thenS];refine Iw I (H9.2 ?_);generalize hQ:(λe a' w'=>bodyPostS _ _ _ _ _ e a' _ w')=Q;have HQ:=Fm hQ;clear hQ
 go_wp2
 rw[<-HQ.out];cases c₀;simp_all [bodyPostS,results,results132]
theorem ZG:Ld prog 132 45 45:=by
 intro nn pe K lb n older w R hnn hE hK hR;have hn:∀(w:World) (n:Int),(binOp .neq 20 (.iface 45 (.int .i64 n)) .nilIface).run prog w=.ok (.bool true) w:=λ_ _=>by kernel_rfl
 have ht:∀(w:World) (n:Int),(Instr.typeAssert (.iface 45 (.int .i64 n)) 20 45 true).run prog w=.ok (.tuple #[.int .i64 n,.bool true]) w:=λ_ _=>by kernel_rfl
 have eK:∀args w,(callFunc K args).run prog w=.ok (.enter K args) w:=hE;refine G4 func132 I trivial λc₀ cs hu=>?_;simp only[ntmps132,E9,Ct,Ep,Nat.reduceAdd,Nat.reduceSub,Fu,Fv,Gz,Gd,Cs,E2];apply Mp;apply Jy;simp[wpOpsSIn,go_sem,recoverD,hu,Exit.thenS];refine Iw I (H9.2 ?_);generalize hQ:(λe a' w'=>bodyPostS _ _ _ _ _ e a' _ w')=Q;have HQ:=Fm hQ;clear hQ
 go_wp2_with fail
 refine hK.mono ?_;rintro e w1 ⟨rfl,hr⟩;obtain⟨v,hv⟩:=hR w1 hr;have c1:=BD hv
 go_wp2
 rw[<-HQ.out];cases c₀;simp_all [bodyPostS,results,results132]
 exact⟨w1,hr,I⟩
def Agb (g:Nat):Bool:=match Nat.beq g 21 with
 |true=>true
 |false=>match Nat.beq g 108 with
  |true=>true
  |false=>Nat.beq g 132
theorem Ajk (g:Nat) (h:Agb g=true):Jh prog g/\Ld prog g 45 45:=by
 unfold Agb at h;split at h
 ·rename_i e;rw[Bq e];exact⟨RG,ZE⟩
 ·split at h
  ·rename_i e;rw[Bq e];exact⟨RH,ZF⟩
  ·rw[Bq h];exact⟨RI,ZG⟩
theorem Afv:(Ck.ev prog false Agb 45 Ck.kn0 1000000 (.fn 5 []) Ck.noF ⟨.lf,0⟩ λe _ _=>match e with
   | .val (.bool b)=>b
   |_=>false)=true:=tqK
theorem Ank:Cm prog 5 [] [] [] (Bd (.bool true)):=
 Ck.cm_of_ev (Ck.ev_sound tqK Ck.kn0S Ajk _) Afv
end Go.Proofs.YtjofafbkkpdgbaaGreat
