/- Part 9 of the proof of LockBacks: contracts of functions that the law reaches, or the rules by which they are walked. No condition. -/
import Derived.Test.YtmhnlkakbadkgaaGreatPkah
import Derived.KernelRfl
namespace Go.Proofs.YtmhnlkakbadkgaaGreat.Ck
open Go
set_option maxRecDepth 100000
inductive Tr (α : Type) where
  | lf
  | nd (x : Option α) (a b c d : Tr α)
section
variable {α β : Type}
noncomputable def Tr.get (t : Tr α) : Nat → Option α :=
  Tr.rec (motive := fun _ => Nat → Option α) (fun _ => none) (fun x _ _ _ _ ga gb gc gd k =>
    Nat.rec (motive := fun _ => Option α) x (fun j _ => Nat.rec (motive := fun _ => Option α) (ga (Nat.div j 4)) (fun i _ => Nat.rec (motive := fun _ => Option α) (gb (Nat.div j 4)) (fun i _ => Nat.rec (motive := fun _ => Option α) (gc (Nat.div j 4)) (fun _ _ => gd (Nat.div j 4)) i) i) (Nat.mod j 4)) k) t
noncomputable def Tr.put1 (z : β) (v : α) (f : Nat) : Nat → (Tr α → β) → β :=
  Nat.rec (motive := fun _ => Nat → (Tr α → β) → β) (fun _ _ => z)
    (fun _ ih k K => Nat.rec (motive := fun _ => β) (K (.nd (some v) .lf .lf .lf .lf))
      (fun j _ => Nat.rec (motive := fun _ => β) (ih (Nat.div j 4) fun t => K (.nd none t .lf .lf .lf)) (fun i _ => Nat.rec (motive := fun _ => β) (ih (Nat.div j 4) fun t => K (.nd none .lf t .lf .lf)) (fun i _ => Nat.rec (motive := fun _ => β) (ih (Nat.div j 4) fun t => K (.nd none .lf .lf t .lf)) (fun _ _ => ih (Nat.div j 4) fun t => K (.nd none .lf .lf .lf t)) i) i) (Nat.mod j 4)) k) f
noncomputable def Tr.put (z : β) (v : α) (t : Tr α) : Nat → (Tr α → β) → β :=
  Tr.rec (motive := fun _ => Nat → (Tr α → β) → β) (Tr.put1 z v 40)
    (fun x a b c d pa pb pc pd k K => Nat.rec (motive := fun _ => β) (K (.nd (some v) a b c d))
      (fun j _ => Nat.rec (motive := fun _ => β) (pa (Nat.div j 4) fun t => K (.nd x t b c d)) (fun i _ => Nat.rec (motive := fun _ => β) (pb (Nat.div j 4) fun t => K (.nd x a t c d)) (fun i _ => Nat.rec (motive := fun _ => β) (pc (Nat.div j 4) fun t => K (.nd x a b t d)) (fun _ _ => pd (Nat.div j 4) fun t => K (.nd x a b c t)) i) i) (Nat.mod j 4)) k) t
structure W (α : Type) where
  f : α
noncomputable def getS (f : Nat) : Nat → W (Tr α → Option α) :=
  Nat.rec (motive := fun _ => Nat → W (Tr α → Option α)) (fun k => ⟨fun t => t.get k⟩)
    (fun _ ih k => Nat.rec (motive := fun _ => W (Tr α → Option α)) ⟨fun t => Tr.casesOn t none fun x _ _ _ _ => x⟩
      (fun j _ => Nat.rec (motive := fun _ => W (Tr α → Option α)) ⟨fun t => Tr.casesOn t none fun _ a _ _ _ => (ih (Nat.div j 4)).f a⟩ (fun i _ => Nat.rec (motive := fun _ => W (Tr α → Option α)) ⟨fun t => Tr.casesOn t none fun _ _ b _ _ => (ih (Nat.div j 4)).f b⟩
        (fun i _ => Nat.rec (motive := fun _ => W (Tr α → Option α)) ⟨fun t => Tr.casesOn t none fun _ _ _ c _ => (ih (Nat.div j 4)).f c⟩ (fun _ _ => ⟨fun t => Tr.casesOn t none fun _ _ _ _ d => (ih (Nat.div j 4)).f d⟩) i) i) (Nat.mod j 4)) k) f
noncomputable def putS (z : β) (f : Nat) : Nat → W (α → Tr α → (Tr α → β) → β) :=
  Nat.rec (motive := fun _ => Nat → W (α → Tr α → (Tr α → β) → β)) (fun k => ⟨fun v t K => Tr.put z v t k K⟩)
    (fun _ ih k => Nat.rec (motive := fun _ => W (α → Tr α → (Tr α → β) → β)) ⟨fun v t K => Tr.casesOn t (K (.nd (some v) .lf .lf .lf .lf)) fun _ a b c d => K (.nd (some v) a b c d)⟩
      (fun j _ => Nat.rec (motive := fun _ => W (α → Tr α → (Tr α → β) → β))
        ⟨fun v t K => Tr.casesOn t ((ih (Nat.div j 4)).f v .lf fun t => K (.nd none t .lf .lf .lf)) fun x a b c d => (ih (Nat.div j 4)).f v a fun t => K (.nd x t b c d)⟩ (fun i _ => Nat.rec (motive := fun _ => W (α → Tr α → (Tr α → β) → β))
        ⟨fun v t K => Tr.casesOn t ((ih (Nat.div j 4)).f v .lf fun t => K (.nd none .lf t .lf .lf)) fun x a b c d => (ih (Nat.div j 4)).f v b fun t => K (.nd x a t c d)⟩ (fun i _ => Nat.rec (motive := fun _ => W (α → Tr α → (Tr α → β) → β))
        ⟨fun v t K => Tr.casesOn t ((ih (Nat.div j 4)).f v .lf fun t => K (.nd none .lf .lf t .lf)) fun x a b c d => (ih (Nat.div j 4)).f v c fun t => K (.nd x a b t d)⟩ (fun _ _ =>
        ⟨fun v t K => Tr.casesOn t ((ih (Nat.div j 4)).f v .lf fun t => K (.nd none .lf .lf .lf t)) fun x a b c d => (ih (Nat.div j 4)).f v d fun t => K (.nd x a b c t)⟩) i) i) (Nat.mod j 4)) k) f
@[reducible] def sel (b : Bool) (x y : β) : β := match b with | true => x | false => y
end
inductive Bk where
  | c (cs : List Value) (t : TypeId) (op : Nat)
  | o (x : Obj)
  | lp (st : LoopState) (T : Tr Value) (m : Nat) (ps : List Tmp) (pre body : Code) (fn : FuncId) (df : Nat) (jump : Option Code)
  | d
structure CH where
  h : Tr Bk
  n : Nat
structure Pc where
  a : List Value
  l : List (Nat × Bk)
  n : Nat
  v : Value
  l' : List (Nat × Bk)
  n' : Nat
structure Kn where
  fl : FuncId → Option (List Value × TypeId × List Value)
  oc : FuncId → List Pc
def kn0 : Kn := ⟨fun _ => none, fun _ => []⟩
structure Fr where
  T : Tr Value
  m : Nat
  D : List Deferred
  q : Option Nat
inductive Ex where
  | normal
  | exit (id : Nat)
  | goto (l : Nat)
  | ret
  | panic (v : Value)
  | val (v : Value)
section
variable {α β : Type} (P : Program) (z : β)
noncomputable def wrK (vs : List Value) : List Value → (List Value → β) → β :=
  List.rec (motive := fun _ => List Value → (List Value → β) → β) (fun cs K => K cs)
    (fun v _ ih cs K => match v.oneCell', cs with
      | true, _ :: cs => ih cs fun cs => K (v :: cs)
      | _, _ => z) vs
noncomputable def setsK (vs : List Value) (cs : List Value) : Nat → (List Value → β) → β :=
  List.rec (motive := fun _ => Nat → (List Value → β) → β) (fun _ K => wrK z vs [] K)
    (fun x xs ih k K => Nat.rec (motive := fun _ => β) (wrK z vs (x :: xs) K) (fun j _ => ih j fun ys => K (x :: ys)) k) cs
noncomputable def tk1 (cs : List Value) : Nat → (List Value → β) → β :=
  List.rec (motive := fun _ => Nat → (List Value → β) → β) (fun n K => Nat.rec (motive := fun _ => β) (K []) (fun _ _ => z) n)
    (fun x _ ih n K => Nat.rec (motive := fun _ => β) (K []) (fun j _ => ih j fun vs => K (x :: vs)) n) cs
noncomputable def takeK (cs : List Value) (o n : Nat) (K : List Value → β) : β :=
  List.rec (motive := fun _ => Nat → β) (fun _ => tk1 z [] n K)
    (fun x xs ih o => Nat.rec (motive := fun _ => β) (tk1 z (x :: xs) n K) (fun j _ => ih j) o) cs o
noncomputable def nthL (cs : List Value) : Nat → Option Value :=
  List.rec (motive := fun _ => Nat → Option Value) (fun _ => none) (fun x _ ih k => Nat.rec (motive := fun _ => Option Value) (some x) (fun j _ => ih j) k) cs
noncomputable def evS (x : Operand) : W (Tr Value → Value) := match x with
  | .tmp t => ⟨fun T => Option.casesOn ((getS 40 t).f T) undef fun v => v⟩
  | .const v => ⟨fun _ => v⟩
  | .global g => ⟨fun _ => .pointer (some ⟨g, 0, none⟩)⟩
  | .func f => ⟨fun _ => .func (.func f) #[] #[]⟩
noncomputable def evT (T : Tr Value) (x : Operand) : Value := (evS x).f T
@[reducible] def arrL {γ : Type} (a : Array γ) : List γ := match a with | ⟨l⟩ => l
mutual
/-- A value without addresses. -/
def plainV : Value → Bool
  | .pointer (some _) => false
  | .slice (some _) _ _ => false
  | .map (some _) => false
  | .func (.yield _) _ _ => false
  | .func _ ⟨f⟩ ⟨c⟩ => plainL f && plainL c
  | .iface _ v => plainV v
  | .agg ⟨cs⟩ => plainL cs
  | .tuple ⟨vs⟩ => plainL vs
  | _ => true
def plainL : List Value → Bool
  | [] => true
  | v :: vs => plainV v && plainL vs
end
def opdOk : Operand → Bool
  | .const v => plainV v
  | .global _ => false
  | _ => true
def opOk (o : Oper) : Bool := o.op.operands.toList.all opdOk
def tyZero (t : TypeId) : Option (List Value) := match P.info? t with
  | some i => match i.zero with
    | some v => match plainV v && Nat.beq v.cells.size i.size with
      | true => some v.cells.toList
      | false => none
    | none => none
  | none => none
def tyZeroV (t : TypeId) : Option Value := match P.info? t with
  | some i => match i.zero with
    | some v => match plainV v with
      | true => some v
      | false => none
    | none => none
  | none => none
def tyIntK (t : TypeId) : Option IntKind := match P.underlying t with
  | some (.int k) => some k
  | _ => none
def tyM (t : TypeId) : Option TypeId := match P.underlying t with
  | some (.map k e) => match tyIntK P k with
    | some _ => some e
    | none => none
  | _ => none
def tyStr (t : TypeId) : Bool := match P.underlying t with | some .string => true | _ => false
def tyBool (t : TypeId) : Bool := match P.underlying t with | some .bool => true | _ => false
def tySlc (t : TypeId) : Bool := match P.underlying t with | some (.slice _) => true | _ => false
def tyPtr (t : TypeId) : Bool := match P.underlying t with | some (.pointer _) => true | _ => false
def tyCon (t : TypeId) : Bool := match P.underlying t with
  | some (.interface _) => false
  | some _ => true
  | none => false
def tyFun (t : TypeId) : Bool := match P.underlying t with | some (.func _ _ _) => true | _ => false
noncomputable def partK (kd : Option Nat) (cs : List Value) (o : Nat) (K : Value → β) : β :=
  match kd with
  | none => match nthL cs o with
    | some v => K v
    | none => z
  | some n => takeK z cs o n fun vs => K (.agg ⟨vs⟩)
noncomputable def loadK (t : TypeId) (x : Value) (H : CH) (K : Value → β) : β :=
  match x with
  | .pointer (some ⟨b, o, none⟩) => match H.h.get b with
    | some (.c cs _ _) => match tyK P t with
      | some kd => partK z kd cs o K
      | none => z
    | _ => z
  | _ => z
noncomputable def storeK (t : TypeId) (x v : Value) (H : CH) (K : CH → β) : β :=
  match x with
  | .pointer (some ⟨b, o, none⟩) => match H.h.get b with
    | some (.c cs ty op) => match tyK P t with
      | some kd => match Nat.beq v.cells.size (kd.getD 1) && Nat.blt 0 v.cells.size with
        | true => setsK z (arrL v.cells) cs o fun cs => Tr.put z (.c cs ty op) H.h b fun h => K ⟨h, H.n⟩
        | false => z
      | none => z
    | _ => z
  | _ => z
noncomputable def newK (b : Bk) (H : CH) (K : Nat → CH → β) : β :=
  Tr.put z b H.h H.n fun h => K H.n ⟨h, Nat.succ H.n⟩
noncomputable def fieldK (s : TypeId) (x : Value) (f : Nat) (K : Value → β) : β :=
  match x with
  | .pointer (some ⟨b, o, none⟩) => match tyF P s with
    | some fs => match fs[f]? with
      | some p => K (.pointer (some ⟨b, Nat.add o p.1, none⟩))
      | none => z
    | none => z
  | _ => z
noncomputable def fieldVK (s : TypeId) (x : Value) (f : Nat) (K : Value → β) : β :=
  match x with
  | .agg ⟨cs⟩ => match tyF P s with
    | some fs => match fs[f]? with
      | some p => match tyK P p.2 with
        | some kd => partK z kd cs p.1 K
        | none => z
      | none => z
    | none => z
  | _ => z
def cmpB (op : BinOp) (a b : Int) : Option Bool := match op with
  | .eql => some (a == b)
  | .neq => some (a != b)
  | .lss => some (decide (a < b))
  | .leq => some (decide (a ≤ b))
  | .gtr => some (decide (a > b))
  | .geq => some (decide (a ≥ b))
  | _ => none
def ariB (op : BinOp) (k : IntKind) (a b : Int) : Option Int := match op with
  | .add => some (k.wrap (a + b))
  | .sub => some (k.wrap (a - b))
  | .mul => some (k.wrap (a * b))
  | _ => none
def eqlR (op : BinOp) (c : Bool) : Option Bool := match op with
  | .eql => some c
  | .neq => some !c
  | _ => none
def eqV (t : TypeId) (u v : Value) : Option Bool := match u, v with
  | .bool a, .bool b => match tyBool P t with
    | true => some (a == b)
    | false => none
  | .pointer none, .pointer b => match tyPtr P t with
    | true => some b.isNone
    | false => none
  | .pointer (some _), .pointer none => match tyPtr P t with
    | true => some false
    | false => none
  | .slice none _ _, .slice b _ _ => match tySlc P t with
    | true => some b.isNone
    | false => none
  | .slice (some _) _ _, .slice none _ _ => match tySlc P t with
    | true => some false
    | false => none
  | .nilFunc, .nilFunc => match tyFun P t with
    | true => some true
    | false => none
  | .nilFunc, .func _ _ _ => match tyFun P t with
    | true => some false
    | false => none
  | .func _ _ _, .nilFunc => match tyFun P t with
    | true => some false
    | false => none
  | .agg ⟨xs⟩, .agg ⟨ys⟩ => match eqOk P t with
    | true => match flatK P 9 t with
      | some ks => fitL ks xs ys
      | none => none
    | false => none
  | _, _ => none
noncomputable def semK (s : Sem Value) (K : Value → β) : β := match s with
  | .pure v => match v with
    | .int k n => K (.int k n)
    | .bool b => K (.bool b)
    | .string b => K (.string b)
    | _ => z
  | _ => z
noncomputable def binK (op : BinOp) (t : TypeId) (u v : Value) (K : Value → β) : β :=
  match u, v with
  | .int k a, .int k' b => match decide (k = k') with
    | true => match cmpB op a b with
      | some c => K (.bool c)
      | none => match ariB op k a b with
        | some c => K (.int k c)
        | none => semK z (binOp op t (.int k a) (.int k' b)) K
    | false => semK z (binOp op t (.int k a) (.int k' b)) K
  | .string a, .string b => semK z (binOp op t (.string a) (.string b)) K
  | u, v => match eqV P t u v with
    | some c => match eqlR op c with
      | some c => K (.bool c)
      | none => z
    | none => z
noncomputable def unK (op : UnOp) (v : Value) (K : Value → β) : β := match op, v with
  | .not, .bool b => match b with
    | true => K (.bool false)
    | false => K (.bool true)
  | .neg, .int k n => K (.int k (k.wrap (0 - n)))
  | _, _ => z
noncomputable def convK (t d : TypeId) (v : Value) (K : Value → β) : β := match v with
  | .int _ n => match P.underlying t, tyIntK P d with
    | some _, some k => K (.int k (k.wrap n))
    | _, _ => z
  | _ => z
noncomputable def idxAddrK (t : TypeId) (x i : Value) (K : Value → β) : β :=
  match x, i with
  | .slice (some ⟨b, o, _⟩) l _, .int _ (.ofNat j) => match tyE P t, Nat.blt j l with
    | some p, true => K (.pointer (some ⟨b, Nat.add o (Nat.mul j p.2), none⟩))
    | _, _ => z
  | .pointer (some ⟨b, o, none⟩), .int _ (.ofNat j) => match tyA P t with
    | some p => match Nat.blt j p.1 with
      | true => K (.pointer (some ⟨b, Nat.add o (Nat.mul j p.2.2), none⟩))
      | false => z
    | none => z
  | _, _ => z
noncomputable def indexK (t : TypeId) (x i : Value) (K : Value → β) : β :=
  match x, i with
  | .agg ⟨cs⟩, .int _ (.ofNat j) => match tyA P t with
    | some p => match Nat.blt j p.1, tyK P p.2.1 with
      | true, some kd => partK z kd cs (Nat.mul j p.2.2) K
      | _, _ => z
    | none => z
  | .string s, .int _ (.ofNat j) => match tyStr P t, s[j]? with
    | true, some b => K (.int .u8 b.toNat)
    | _, _ => z
  | _, _ => z
noncomputable def fillK (T : Tr Value) (fs : List (Nat × Nat)) (ps : List (Nat × Operand)) : List Value → (List Value → β) → β :=
  List.rec (motive := fun _ => List Value → (List Value → β) → β) (fun cs K => K cs)
    (fun p _ ih cs K => match fs[p.1]? with
      | some q => match tyK P q.2 with
        | some kd => match Nat.beq (evT T p.2).cells.size (kd.getD 1) with
          | true => setsK z (arrL (evT T p.2).cells) cs q.1 fun cs => ih cs K
          | false => z
        | none => z
      | none => z) ps
noncomputable def fillRK (T : Tr Value) (sz : Nat) (ps : List (Nat × Operand)) : List Value → (List Value → β) → β :=
  List.rec (motive := fun _ => List Value → (List Value → β) → β) (fun cs K => K cs)
    (fun p _ ih cs K => match Nat.beq (evT T p.2).cells.size sz with
      | true => setsK z (arrL (evT T p.2).cells) cs (Nat.mul p.1 sz) fun cs => ih cs K
      | false => z) ps
def zerosL (zs : List Value) (n : Nat) : List Value := (List.replicate n zs).flatten
noncomputable def buildK (T : Tr Value) (t : TypeId) (ps : List (Nat × Operand)) (K : Value → β) : β :=
  match tyZero P t with
  | some zs => match tyF P t with
    | some fs => fillK P z T fs ps zs fun cs => K (.agg ⟨cs⟩)
    | none => match tyA P t with
      | some p => match p.2.2 with
        | sz + 1 => fillRK z T (sz + 1) ps zs fun cs => K (.agg ⟨cs⟩)
        | 0 => z
      | none => z
  | none => z
noncomputable def buildSK (T : Tr Value) (t : TypeId) (l : Nat) (ps : List (Nat × Operand)) (H : CH) (K : Value → CH → β) : β :=
  match tyE P t with
  | some p => match tyZero P p.1, Nat.ble (Nat.mul l p.2) 16777216, p.2 with
    | some zs, true, sz + 1 => fillRK z T (sz + 1) ps (zerosL zs l) fun cs => newK z (.c cs p.1 0) H fun k H => K (.slice (some ⟨k, 0, none⟩) l l) H
    | _, _, _ => z
  | none => z
def findM (k : IntKind) (a : Int) : List MapEntry → Nat → Option (Option (Nat × Value))
  | [], _ => some none
  | e :: es, i => match e.key with
    | .int k' b => match decide (k = k') with
      | true => match a == b with
        | true => some (some (i, e.val))
        | false => findM k a es (i + 1)
      | false => none
    | _ => none
noncomputable def lookupK (t : TypeId) (x i : Value) (ok : Bool) (H : CH) (K : Value → β) : β :=
  match tyM P t, i with
  | some e, .int k a =>
    let fin (v : Value) (b : Bool) : β := K (match ok with | true => .tuple #[v, .bool b] | false => v)
    match x with
    | .map none => match tyZeroV P e with
      | some v => fin v false
      | none => z
    | .map (some r) => match H.h.get r with
      | some (.o (.map ⟨es⟩ _)) => match findM k a es 0 with
        | some (some p) => fin p.2 true
        | some none => match tyZeroV P e with
          | some v => fin v false
          | none => z
        | none => z
      | _ => z
    | _ => z
  | _, _ => z
noncomputable def mapSetK (t : TypeId) (x i v : Value) (H : CH) (K : CH → β) : β :=
  match tyM P t, i, x with
  | some _, .int k a, .map (some r) => match H.h.get r with
    | some (.o (.map ⟨es⟩ n)) => match findM k a es 0 with
      | some (some p) => Tr.put z (.o (.map ((⟨es⟩ : Array MapEntry).modify p.1 fun e => { e with key := i, val := v }) n)) H.h r fun h => K ⟨h, H.n⟩
      | some none => Tr.put z (.o (.map ⟨es ++ [{ key := i, val := v, born := n }]⟩ (n + 1))) H.h r fun h => K ⟨h, H.n⟩
      | none => z
    | _ => z
  | _, _, _ => z
noncomputable def newSlK (vs : List Value) (e : TypeId) (sz need : Nat) (H : CH) (K : Value → CH → β) : β :=
  newK z (.c vs e sz) H fun k H => K (.slice (some ⟨k, 0, none⟩) need need) H
noncomputable def appAtK (b o : Nat) (sp : Option Nat) (l c : Nat) (vs : List Value) (m : Nat) (e : TypeId) (sz : Nat) (H : CH) (K : Value → CH → β) : β :=
  match H.h.get b with
  | some (.c cs ty op) => match Nat.ble (Nat.add l m) c with
    | true => setsK z vs cs (Nat.add o (Nat.mul l sz)) fun cs => Tr.put z (.c cs ty op) H.h b fun h => K (.slice (some ⟨b, o, sp⟩) (Nat.add l m) c) ⟨h, H.n⟩
    | false => takeK z cs o (Nat.mul l sz) fun us =>
      match Nat.beq op 0 || (Nat.beq op sz && (sp.isSome || Nat.blt (Nat.add o (Nat.mul c sz)) cs.length)) with
      | true => newSlK z (us ++ vs) e sz (Nat.add l m) H K
      | false => match Nat.beq op sz && (Nat.beq ty e && (sp.isNone && Nat.beq (Nat.add o (Nat.mul c sz)) cs.length)) with
        | true => match vs.all (·.oneCell') with
          | true => Tr.put z .d H.h b fun h => newSlK z (us ++ vs) e sz (Nat.add l m) ⟨h, H.n⟩ K
          | false => z
        | false => z
  | _ => z
noncomputable def appK (s : Value) (vs : List Value) (m : Nat) (e : TypeId) (sz : Nat) (H : CH) (K : Value → CH → β) : β :=
  match s with
  | .slice none 0 0 => match m with
    | 0 => K s H
    | m => match Nat.ble m 1000000 with
      | true => newSlK z vs e sz m H K
      | false => z
  | .slice (some ⟨b, o, sp⟩) l c => match m with
    | 0 => match Nat.ble l c with
      | true => K s H
      | false => z
    | m => match Nat.ble (Nat.add l m) 1000000 with
      | true => appAtK z b o sp l c vs m e sz H K
      | false => z
  | _ => z
noncomputable def firstK (x : Value) (m sz : Nat) (H : CH) (K : List Value → β) : β :=
  match m with
  | 0 => K []
  | m => match x with
    | .slice (some ⟨b, o, _⟩) _ _ => match H.h.get b with
      | some (.c cs _ _) => takeK z cs o (Nat.mul m sz) K
      | _ => z
    | _ => z
def tyZeroY (t : TypeId) : Option (List Value) := match tyY P t with
  | some y => match Nat.ble y 65536 with
    | true => tyZero P t
    | false => none
  | none => none
noncomputable def appendK (ts : List TypeId) (s x : Value) (H : CH) (K : Value → CH → β) : β :=
  match ts with
  | [t, u] => match tyE P t with
    | some p => match tyZeroY P p.1, p.2, x with
      | some _, sz + 1, .slice _ m _ => match tySlc P u with
        | true => firstK z x m (sz + 1) H fun vs => appK z s vs m p.1 (sz + 1) H K
        | false => z
      | some zs, sz + 1, .int _ (.ofNat m) => match tyIntK P u, Nat.ble m 65536 with
        | some _, true => appK z s (zerosL zs m) m p.1 (sz + 1) H K
        | _, _ => z
      | _, _, _ => z
    | none => z
  | _ => z
noncomputable def copyK (ts : List TypeId) (d x : Value) (H : CH) (K : Value → CH → β) : β :=
  match ts, d, x with
  | t :: _, .slice a l _, .slice _ m _ => match tyE P t with
    | some p => let n := Nat.min m l
      match n with
      | 0 => K (.int .i64 0) H
      | n => firstK z x n p.2 H fun vs => match a with
        | some ⟨b, o, _⟩ => match H.h.get b with
          | some (.c cs ty op) => setsK z vs cs o fun cs => Tr.put z (.c cs ty op) H.h b fun h => K (.int .i64 (.ofNat n)) ⟨h, H.n⟩
          | _ => z
        | _ => z
    | none => z
  | _, _, _ => z
noncomputable def clearK (ts : List TypeId) (x : Value) (H : CH) (K : Value → CH → β) : β :=
  match ts, x with
  | t :: _, .slice a n _ => match tyE P t with
    | some p => match n with
      | 0 => K undef H
      | n => match a with
        | none => K undef H
        | some ⟨b, o, _⟩ => match tyZero P p.1, H.h.get b with
          | some zs, some (.c cs ty op) => setsK z (zerosL zs n) cs o fun cs => Tr.put z (.c cs ty op) H.h b fun h => K undef ⟨h, H.n⟩
          | _, _ => z
    | none => z
  | _, _ => z
noncomputable def capK (ts : List TypeId) (x : Value) (H : CH) (K : Value → CH → β) : β :=
  match ts, x with
  | t :: _, .slice none _ c => match tySlc P t with
    | true => K (.int .i64 (.ofNat c)) H
    | false => z
  | t :: _, .slice (some ⟨b, o, sp⟩) _ c => match tySlc P t, H.h.get b with
    | true, some (.c cs _ op) => match op, sp.isSome || Nat.blt (Nat.add o (Nat.mul c op)) cs.length with
      | 0, _ => K (.int .i64 (.ofNat c)) H
      | _, true => K (.int .i64 (.ofNat c)) H
      | _, false => z
    | _, _ => z
  | _, _ => z
noncomputable def lenK (ts : List TypeId) (x : Value) (H : CH) (K : Value → CH → β) : β :=
  match ts, x with
  | t :: _, .slice _ l _ => match tySlc P t with
    | true => K (.int .i64 (.ofNat l)) H
    | false => z
  | t :: _, .string s => match tyStr P t with
    | true => K (.int .i64 (.ofNat s.size)) H
    | false => z
  | t :: _, .map (some r) => match tyM P t, H.h.get r with
    | some _, some (.o (.map ⟨es⟩ _)) => K (.int .i64 (.ofNat es.length)) H
    | _, _ => z
  | _, _ => z
noncomputable def bound (x : Option Operand) (T : Tr Value) (dflt : Nat) (K : Nat → β) : β := match x with
  | none => K dflt
  | some x => match evT T x with
    | .int _ (.ofNat n) => K n
    | _ => z
def limS (b : Bool) (sp : Option Nat) : Option Nat := match b with
  | true => some 0
  | false => sp
noncomputable def sliceK (T : Tr Value) (t : TypeId) (x : Value) (lo hi mx : Option Operand) (H : CH) (K : Value → CH → β) : β :=
  match x with
  | .slice a len cap => match tyE P t with
    | some p =>
      bound z mx T cap fun m => bound z hi T len fun h => bound z lo T 0 fun l =>
      match Nat.ble m cap && (Nat.ble h m && (Nat.ble l h && (mx.isNone || hi.isSome))), a with
      | true, none => K (.slice none (Nat.sub h l) (Nat.sub m l)) H
      | true, some ⟨b, o, sp⟩ => match H.h.get b with
        | some (.c cs _ op) =>
          match Nat.beq op 0 || (Nat.beq op p.2 && ((limS mx.isSome sp).isSome || Nat.blt (Nat.add o (Nat.mul m p.2)) cs.length)), Nat.beq op p.2, Nat.beq m l with
          | true, _, e => K (.slice (some ⟨b, match e with | true => o | false => Nat.add o (Nat.mul l p.2), limS mx.isSome sp⟩) (Nat.sub h l) (Nat.sub m l)) H
          | false, true, false => K (.slice (some ⟨b, Nat.add o (Nat.mul l p.2), none⟩) (Nat.sub h l) (Nat.sub m l)) H
          | false, true, true => newK z .d H fun k H => K (.slice (some ⟨k, 0, none⟩) 0 0) H
          | _, _, _ => z
        | _ => z
      | _, _ => z
    | none => z
  | .pointer (some ⟨b, o, none⟩) => match tyA P t with
    | some p =>
      bound z mx T p.1 fun m => bound z hi T p.1 fun h => bound z lo T 0 fun l =>
      match Nat.ble m p.1 && (Nat.ble h m && (Nat.ble l h && (mx.isNone || hi.isSome))), H.h.get b with
      | true, some (.c _ _ 0) => K (.slice (some ⟨b, match Nat.beq m l with | true => o | false => Nat.add o (Nat.mul l p.2.2), none⟩) (Nat.sub h l) (Nat.sub m l)) H
      | _, _ => z
    | none => z
  | _ => z
noncomputable def makeSlK (t : TypeId) (l c : Value) (H : CH) (K : Value → CH → β) : β :=
  match l, c with
  | .int _ (.ofNat l), .int _ (.ofNat c) => match tyE P t with
    | some p => match tyZero P p.1, tyY P p.1, Nat.ble l c && Nat.ble c 65536, p.2 with
      | some zs, some y, true, _ + 1 => match Nat.ble y 65536 with
        | false => z
        | true => newK z (.c (zerosL zs c) p.1 0) H fun k H => K (.slice (some ⟨k, 0, none⟩) l c) H
      | _, _, _, _ => z
    | none => z
  | _, _ => z
noncomputable def builtinK (b : Builtin) (ts : List TypeId) (args : List Value) (H : CH) (K : Value → CH → β) : β :=
  match b, args with
  | .len, [x] => lenK P z ts x H K
  | .cap, [x] => capK P z ts x H K
  | .append, [s, x] => appendK P z ts s x H K
  | .copy, [d, x] => copyK P z ts d x H K
  | .clear, [x] => clearK P z ts x H K
  | .max, [.int k a, .int k' b] => match decide (k = k') with
    | true => K (.int k (if b > a then b else a)) H
    | false => z
  | .min, [.int k a, .int k' b] => match decide (k = k') with
    | true => K (.int k (if b < a then b else a)) H
    | false => z
  | _, _ => z
noncomputable def opV (T : Tr Value) (o : Oper) (H : CH) (K : Value → CH → β) : β :=
  match o.op with
  | .move x => K (evT T x) H
  | .assign x => K (evT T x) H
  | .pick c a b => match evT T c with
    | .bool c => match c with
      | true => K (evT T a) H
      | false => K (evT T b) H
    | _ => z
  | .alloc t => match tyZero P t with
    | some cs => newK z (.c cs t 0) H fun k H => K (.pointer (some ⟨k, 0, none⟩)) H
    | none => z
  | .box t x => newK z (.c (arrL (evT T x).cells) t 0) H fun k H => K (.pointer (some ⟨k, 0, none⟩)) H
  | .build t ps => buildK P z T t ps.toList fun v => K v H
  | .buildSlice t l ps => buildSK P z T t l ps.toList H K
  | .insert t m k x => mapSetK P z t (evT T m) (evT T k) (evT T x) H fun H => K undef H
  | .mapUpdate t m k x => mapSetK P z t (evT T m) (evT T k) (evT T x) H fun H => K undef H
  | .load t x => loadK P z t (evT T x) H fun v => K v H
  | .store t x v => storeK P z t (evT T x) (evT T v) H fun H => K undef H
  | .nilCheck x => match evT T x with
    | .pointer (some a) => K (.pointer (some a)) H
    | .func (.func f) a b => K (.func (.func f) a b) H
    | _ => z
  | .binOp op t x y _ => binK P z op t (evT T x) (evT T y) fun v => K v H
  | .unOp op _ x => unK z op (evT T x) fun v => K v H
  | .convert t d x => convK P z t d (evT T x) fun v => K v H
  | .makeFunc f a b => match f with
    | .func f => K (.func (.func f) (a.map (evT T)) (b.map (evT T))) H
    | _ => z
  | .makeMap t r => match tyM P t, r with
    | some _, none => newK z (.o (.map #[] 0)) H fun k H => K (.map (some k)) H
    | _, _ => z
  | .makeSlice t l c => makeSlK P z t (evT T l) (evT T c) H K
  | .slice t x lo hi mx => sliceK P z T t (evT T x) lo hi mx H K
  | .fieldAddr s x f => fieldK P z s (evT T x) f fun v => K v H
  | .field t x f => fieldVK P z t (evT T x) f fun v => K v H
  | .indexAddr t x i => idxAddrK P z t (evT T x) (evT T i) fun v => K v H
  | .index t x i => indexK P z t (evT T x) (evT T i) fun v => K v H
  | .lookup t x i c => lookupK P z t (evT T x) (evT T i) c H fun v => K v H
  | .extract x i => match evT T x with
    | .tuple ⟨vs⟩ => match vs[i]? with
      | some v => K v H
      | none => z
    | _ => z
  | .makeInterface t x => match tyCon P t with
    | true => K (.iface t (evT T x)) H
    | false => z
  | .call c => match c.callee with
    | .builtin b => builtinK P z b c.argTypes.toList (arrL (c.args.map (evT T))) H K
    | _ => z
  | _ => z
noncomputable def putF (d : Option Nat) (v : Value) (F : Fr) (K : Fr → β) : β :=
  match d with
  | none => K F
  | some d => match F with
    | ⟨T, m, D, q⟩ => match Nat.blt d m with
      | true => (putS z 40 d).f v T fun T => K ⟨T, m, D, q⟩
      | false => z
noncomputable def fillT (vs : List Value) : Nat → Tr Value → (Tr Value → β) → β :=
  List.rec (motive := fun _ => Nat → Tr Value → (Tr Value → β) → β) (fun _ T K => K T)
    (fun v _ ih i T K => Tr.put z v T i fun T => ih (Nat.succ i) T K) vs
noncomputable def resK (F : Fr) (H : CH) (rs : List ResultVar) : (List Value → β) → β :=
  List.rec (motive := fun _ => (List Value → β) → β) (fun K => K [])
    (fun r _ ih K => match r with
      | .tmp t => ih fun vs => K (evT F.T (.tmp t) :: vs)
      | .cell a t => loadK P z t (evT F.T (.tmp a)) H fun v => ih fun vs => K (v :: vs)) rs
inductive Task where
  | fn (f : FuncId) (args : List Value)
  | code (c : Code)
  | lp (b : Code)
  | sc (b c : Code)
  | defers (l : List Deferred)
abbrev Kont (β : Type) := Ex → Fr → CH → β
abbrev Ev (β : Type) := Task → Fr → CH → Kont β → β
variable (cau : FuncId → Bool) (te : TypeId) (kn : Kn) (ih : Ev β)
@[reducible] def noF : Fr := ⟨.lf, 0, [], none⟩
noncomputable def callC (d : Option Nat) (nx : Fr → CH → β) (F : Fr) (K : Kont β) : Kont β := fun e _ H => match e with
  | .val v => putF z d v F fun F => nx F H
  | .panic v => K (.panic v) F H
  | _ => z
noncomputable def callK (g : FuncId) (args : List Value) (d : Option Nat) (nx : Fr → CH → β) (F : Fr) (H : CH) (K : Kont β) : β :=
  match tyB P g with
  | true => ih (.fn g args) noF H (callC z d nx F K)
  | false => z
noncomputable def fillP (ps : List Tmp) : List Value → Fr → (Fr → β) → β :=
  List.rec (motive := fun _ => List Value → Fr → (Fr → β) → β) (fun vs F K => match vs with | [] => K F | _ => z)
    (fun p _ ih vs F K => match vs with
      | v :: vs => putF z (some p) v F fun F => ih vs F K
      | [] => z) ps
def jSt : Option Code → LoopState
  | none => .ready
  | some _ => .done
noncomputable def roundFin (b : Nat) (j : Option Code) (d : Option Nat) (nx : Fr → CH → β) (F : Fr) (H : CH) : β :=
  match H.h.get b with
  | some (.lp .busy T m ps pre body fn df none) =>
    Tr.put z (.lp (jSt j) T m ps pre body fn df j) H.h b fun h => putF z d (.bool j.isNone) F fun F => nx F ⟨h, H.n⟩
  | _ => z
noncomputable def roundEnd (b : Nat) (d : Option Nat) (nx : Fr → CH → β) (F : Fr) : Kont β := fun e _ H => match e with
  | .normal => roundFin z b none d nx F H
  | .exit id => roundFin z b (some (.exit id)) d nx F H
  | .goto t => roundFin z b (some (.goto t)) d nx F H
  | .ret => roundFin z b (some .ret) d nx F H
  | _ => z
noncomputable def roundBody (b : Nat) (body : Code) (d : Option Nat) (nx : Fr → CH → β) (F : Fr) : Kont β := fun e F1 H => match e, H.h.get b with
  | .normal, some (.lp .ready T m ps pre body1 fn df none) => Tr.put z (.lp .busy T m ps pre body1 fn df none) H.h b fun h => ih (.code body) F1 ⟨h, H.n⟩ (roundEnd z b d nx F)
  | _, _ => z
noncomputable def roundK (b : Nat) (args : List Value) (d : Option Nat) (nx : Fr → CH → β) (F : Fr) (H : CH) : β :=
  match H.h.get b with
  | some (.lp _ T m ps pre body _ _ _) => fillP z ps args ⟨T, m, [], some b⟩ fun F1 => ih (.code pre) F1 H (roundBody z ih b body d nx F)
  | _ => z
noncomputable def defK (fn : Fn) (first cap : Array Value) (args : List Value) (d : Option Nat) (nx : Fr → CH → β) (F : Fr) (H : CH) : β :=
  match fn, F.q with
  | .func fn, none => putF z d undef F fun F1 => nx ⟨F1.T, F1.m, { target := .fn (.func fn) cap, args := ⟨arrL first ++ args⟩ } :: F1.D, none⟩ H
  | _, _ => z
noncomputable def valueK (f : Value) (args : List Value) (d : Option Nat) (nx : Fr → CH → β) (F : Fr) (H : CH) (K : Kont β) : β :=
  match f with
  | .func fn first cap => match fn with
    | .func g => callK P z ih g (arrL first ++ (args ++ arrL cap)) d nx F H K
    | .yield b => match first with
      | ⟨[]⟩ => roundK z ih b args d nx F H
      | _ => z
    | _ => z
  | _ => z
noncomputable def deferK (f : Value) (args : List Value) (d : Option Nat) (nx : Fr → CH → β) (F : Fr) (H : CH) : β :=
  match f with
  | .func fn first cap => defK z fn first cap args d nx F H
  | _ => z
def panicK (v : Value) (F : Fr) (H : CH) (K : Kont β) : β := match v with
  | .iface t v => K (.panic (.iface t v)) F H
  | _ => z
abbrev RunT (β : Type) := Ev β → Fr → CH → Kont β → β
noncomputable def evL (T : Tr Value) (xs : List Operand) : List Value := List.rec (motive := fun _ => List Value) [] (fun x _ r => evT T x :: r) xs
noncomputable def opF (o : Oper) : W (Tr Value → CH → (Value → CH → β) → β) := match o.op with
  | .move x => ⟨fun T H K => K (evT T x) H⟩
  | .assign x => ⟨fun T H K => K (evT T x) H⟩
  | .load t x => ⟨fun T H K => loadK P z t (evT T x) H fun v => K v H⟩
  | .store t x v => ⟨fun T H K => storeK P z t (evT T x) (evT T v) H fun H => K undef H⟩
  | .fieldAddr s x f => ⟨fun T H K => fieldK P z s (evT T x) f fun v => K v H⟩
  | .field t x f => ⟨fun T H K => fieldVK P z t (evT T x) f fun v => K v H⟩
  | .indexAddr t x i => ⟨fun T H K => idxAddrK P z t (evT T x) (evT T i) fun v => K v H⟩
  | .index t x i => ⟨fun T H K => indexK P z t (evT T x) (evT T i) fun v => K v H⟩
  | .binOp op t x y _ => ⟨fun T H K => binK P z op t (evT T x) (evT T y) fun v => K v H⟩
  | .box t x => ⟨fun T H K => newK z (.c (arrL (evT T x).cells) t 0) H fun k H => K (.pointer (some ⟨k, 0, none⟩)) H⟩
  | .build t ps => ⟨fun T H K => buildK P z T t ps.toList fun v => K v H⟩
  | .call c => match c.callee with
    | .builtin b => ⟨fun T H K => builtinK P z b c.argTypes.toList (evL T (arrL c.args)) H K⟩
    | _ => ⟨fun _ _ _ => z⟩
  | _ => ⟨fun T H K => opV P z T o H K⟩
noncomputable def opU (o : Oper) (r : W (RunT β)) : W (RunT β) := ⟨fun ih F H K => (opF P z o).f F.T H fun v H => putF z o.dst v F fun F => r.f ih F H K⟩
noncomputable def oneK (o : Oper) (nx : Fr → CH → β) (F : Fr) (H : CH) (K : Kont β) : β :=
  match o.op with
  | .call c => match c.callee with
    | .value f => valueK P z ih (evT F.T f) (arrL (c.args.map (evT F.T))) o.dst nx F H K
    | _ => opV P z F.T o H fun v H => putF z o.dst v F fun F => nx F H
  | .defer c => match c.callee with
    | .value f => deferK z (evT F.T f) (arrL (c.args.map (evT F.T))) o.dst nx F H
    | _ => z
  | .panic x => panicK z (evT F.T x) F H K
  | _ => opV P z F.T o H fun v H => putF z o.dst v F fun F => nx F H
noncomputable def oneU (o : Oper) (r : W (RunT β)) : W (RunT β) := match o.op with
  | .call c => match c.callee with
    | .value f => ⟨fun ih F H K => valueK P z ih (evT F.T f) (evL F.T (arrL c.args)) o.dst (fun F H => r.f ih F H K) F H K⟩
    | _ => opU P z o r
  | .defer c => match c.callee with
    | .value f => ⟨fun ih F H K => deferK z (evT F.T f) (evL F.T (arrL c.args)) o.dst (fun F H => r.f ih F H K) F H⟩
    | _ => ⟨fun _ _ _ _ => z⟩
  | .panic x => ⟨fun _ F H K => panicK z (evT F.T x) F H K⟩
  | _ => opU P z o r
noncomputable def guardK (v : Value) (w : Bool) (d : Option Nat) (u r : W (RunT β)) (F : Fr) (H : CH) (K : Kont β) : β := match v with
  | .bool b => match b == w with
    | true => u.f ih F H K
    | false => putF z d undef F fun F => r.f ih F H K
  | _ => putF z d undef F fun F => r.f ih F H K
noncomputable def oneG (all : Array Oper) (o : Oper) (r : W (RunT β)) : W (RunT β) := match opOk o with
  | true => match o.guard with
    | none => oneU P z o r
    | some (j, w) => match all[j]? with
      | some oj => match oj.dst with
        | some d => ⟨fun ih F H K => guardK z ih (evT F.T (.tmp d)) w o.dst (oneU P z o r) r F H K⟩
        | none => ⟨fun _ _ _ _ => z⟩
      | none => ⟨fun _ _ _ _ => z⟩
  | false => ⟨fun _ _ _ _ => z⟩
noncomputable def opsF (all : Array Oper) (l : List Oper) : W (RunT β) := List.rec (motive := fun _ => W (RunT β)) ⟨fun _ F H K => K .normal F H⟩ (fun o _ r => oneG P z all o r) l
noncomputable def seqF (b : W (RunT β)) (K : Kont β) : Kont β := fun e F H => match e with
  | .normal => b.f ih F H K
  | e => K e F H
noncomputable def loopC (b : Code) (K : Kont β) : Kont β := fun e F H => match e with
  | .normal => ih (.lp b) F H K
  | e => K e F H
def blockC (id : Nat) (K : Kont β) : Kont β := fun e F H => match e with
  | .exit i => match Nat.beq i id with
    | true => K .normal F H
    | false => K (.exit i) F H
  | e => K e F H
noncomputable def scC (b : Code) (K : Kont β) : Kont β := fun e F H => match e with
  | .goto l => match findLabel b l with
    | some rest => ih (.sc b rest) F H K
    | none => K (.goto l) F H
  | e => K e F H
noncomputable def scK (b c : Code) (F : Fr) (H : CH) (K : Kont β) : β := ih (.code c) F H (scC ih b K)
noncomputable def rangeJ (j : Option Code) (F1 : Fr) (H : CH) (K : Kont β) : β := match j with
  | none => K .normal F1 H
  | some c => ih (.code c) F1 H K
noncomputable def rangeC (l : Nat) (F1 : Fr) (K : Kont β) : Kont β := fun e _ H1 => match e, H1.h.get l with
  | .val _, some (.lp st _ _ _ _ _ _ _ j) => match st with
    | .busy => z
    | _ => Tr.put z .d H1.h l fun h1 => rangeJ ih j F1 ⟨h1, H1.n⟩ K
  | _, _ => z
noncomputable def rangeGo (g : FuncId) (args : List Value) (l : Nat) (F1 : Fr) (H : CH) (K : Kont β) : β := ih (.fn g args) noF H (rangeC z ih l F1 K)
noncomputable def rangeK (f : Operand) (ps : List Tmp) (pre body : Code) (F : Fr) (H : CH) (K : Kont β) : β :=
  match opdOk f, evT F.T f with
  | true, .func (.func g) first cap => match tyB P g, F.q with
    | true, none =>
      Tr.put z (.o (.deferred (some []))) H.h H.n fun h =>
      Tr.put z (.lp .ready F.T F.m ps pre body g H.n none) h (Nat.succ H.n) fun h =>
      rangeGo z ih g (arrL first ++ (.func (.yield (Nat.succ H.n)) #[] #[] :: arrL cap)) (Nat.succ H.n) ⟨F.T, F.m, { target := .collected H.n, args := #[] } :: F.D, none⟩ ⟨h, Nat.succ (Nat.succ H.n)⟩ K
    | true, some b => match H.h.get b with
      | some (.lp _ _ _ _ _ _ _ df _) =>
        Tr.put z (.lp .ready F.T F.m ps pre body g df none) H.h H.n fun h =>
        rangeGo z ih g (arrL first ++ (.func (.yield H.n) #[] #[] :: arrL cap)) H.n F ⟨h, Nat.succ H.n⟩ K
      | _ => z
    | false, _ => z
  | _, _ => z
def retOf (vs : List Value) : Value := match vs with
  | [v] => v
  | vs => .tuple ⟨vs⟩
noncomputable def fnRet (fn : Func) (F : Fr) (K : Kont β) : Kont β := fun _ _ H => resK P z F H fn.results.toList fun vs => K (.val (retOf vs)) noF H
noncomputable def upC (pe : Nat) (n : Int) (l : List Deferred) (fn : Func) (F : Fr) (K : Kont β) : Kont β := fun e _ H => match e with
  | .val (.tuple ⟨[]⟩) => match H.h.get pe with
    | some (.c [_] t 0) => match Nat.beq t te with
      | true => Tr.put z (.c [.int .i64 n] te 0) H.h pe fun h => ih (.defers l) F ⟨h, H.n⟩ (fnRet P z fn F K)
      | false => z
    | _ => z
  | _ => z
noncomputable def upK (fn : Func) (F : Fr) (v : Value) (K : Kont β) (l : List Deferred) : CH → β :=
  List.rec (motive := fun _ => CH → β) (fun H => K (.panic v) noF H)
    (fun d l next H => match d.target with
      | .fn (.func g) ⟨[]⟩ => match cau g && tyB P g, d.args, v with
        | true, ⟨[.pointer (some ⟨pe, 0, none⟩), .func (.func k) ⟨[]⟩ ⟨lb⟩]⟩, .iface t (.int .i64 n) => match Nat.beq t te && tyB P k, H.h.get pe with
          | true, some (.c _ _ 0) => ih (.fn k lb) noF H (upC P z te ih pe n l fn F K)
          | _, _ => z
        | _, _, _ => z
      | .collected b => match H.h.get b with
        | some (.o (.deferred (some []))) => Tr.put z .d H.h b fun h => next ⟨h, H.n⟩
        | _ => z
      | _ => z) l
noncomputable def fnEnd (fn : Func) (K : Kont β) : Kont β := fun e F H => match e with
  | .normal => ih (.defers F.D) F H (fnRet P z fn F K)
  | .ret => ih (.defers F.D) F H (fnRet P z fn F K)
  | .panic v => upK P z cau te ih fn F v K F.D H
  | _ => z
mutual
def eqVal : Value → Value → Bool
  | .bool a, .bool b => a == b
  | .int j a, .int k b => decide (j = k) && a == b
  | .string a, .string b => a.data.toList == b.data.toList
  | .pointer none, .pointer none => true
  | .pointer (some a), .pointer (some b) => decide (a = b)
  | .slice none l c, .slice none l' c' => Nat.beq l l' && Nat.beq c c'
  | .slice (some a) l c, .slice (some b) l' c' => decide (a = b) && (Nat.beq l l' && Nat.beq c c')
  | .map none, .map none => true
  | .map (some a), .map (some b) => Nat.beq a b
  | .func (.func f) ⟨a⟩ ⟨b⟩, .func (.func g) ⟨c⟩ ⟨d⟩ => Nat.beq f g && (eqVals a c && eqVals b d)
  | .nilFunc, .nilFunc => true
  | .nilIface, .nilIface => true
  | .agg ⟨a⟩, .agg ⟨b⟩ => eqVals a b
  | .tuple ⟨a⟩, .tuple ⟨b⟩ => eqVals a b
  | _, _ => false
def eqVals : List Value → List Value → Bool
  | [], [] => true
  | a :: xs, b :: ys => eqVal a b && eqVals xs ys
  | _, _ => false
end
noncomputable def fillFn (c0 : List Value) (t : TypeId) (c1 : List Value) (args : List Value) (H : CH) (K : Kont β) : β := match args with
  | [.pointer (some ⟨k, 0, none⟩)] => match H.h.get k with
    | some (.c cs t' 0) => match eqVals cs c0 && Nat.beq t' t with
      | true => Tr.put z (.c c1 t 0) H.h k fun h => K (.val (.tuple ⟨[]⟩)) noF ⟨h, H.n⟩
      | false => z
    | _ => z
  | _ => z
def eqEs : List MapEntry → List MapEntry → Bool
  | [], [] => true
  | a :: xs, b :: ys => (eqVal a.key b.key && eqVal a.val b.val) && (Nat.beq a.born b.born && eqEs xs ys)
  | _, _ => false
def eqBk : Bk → Bk → Bool
  | .c a t p, .c b u q => eqVals a b && (Nat.beq t u && Nat.beq p q)
  | .o (.map ⟨a⟩ n), .o (.map ⟨b⟩ m) => eqEs a b && Nat.beq n m
  | .d, .d => true
  | _, _ => false
noncomputable def insT (k : Nat) (b : Bk) (t : Tr Bk) : Tr Bk := Tr.put .lf b t k fun t => t
noncomputable def mkT (l : List (Nat × Bk)) : Tr Bk := List.rec (motive := fun _ => Tr Bk) .lf (fun p _ r => insT p.1 p.2 r) l
noncomputable def hasAll (h : Tr Bk) (l : List (Nat × Bk)) : Bool := List.rec (motive := fun _ => Bool) true (fun p _ r => match h.get p.1 with
  | some b => match eqBk b p.2 with
    | true => r
    | false => false
  | none => false) l
noncomputable def pieceK (args : List Value) (H : CH) (K : Kont β) (ps : List Pc) : β := List.rec (motive := fun _ => β) z (fun p _ r => match eqVals args p.a && (Nat.beq H.n p.n && hasAll H.h p.l) with
  | true => K (.val p.v) noF ⟨mkT p.l', p.n'⟩
  | false => r) ps
noncomputable def fnB (f : FuncId) (args : List Value) (H : CH) (K : Kont β) : β := match P.funcs[f]? with
  | some fn => match fn.body with
    | some c => match Nat.ble args.length fn.ntmps with
      | false => z
      | true => fillT z args 0 .lf fun T => ih (.code c) ⟨T, fn.ntmps, [], none⟩ H (fnEnd P z cau te ih fn K)
    | none => z
  | none => z
noncomputable def fnK (f : FuncId) (args : List Value) (H : CH) (K : Kont β) : β := match kn.fl f with
  | some p => fillFn z p.1 p.2.1 p.2.2 args H K
  | none => match kn.oc f with
    | [] => fnB P z cau te ih f args H K
    | p :: ps => pieceK z args H K (p :: ps)
noncomputable def defersK (l : List Deferred) (F : Fr) (H : CH) (K : Kont β) : β :=
  match l with
  | [] => K .normal F H
  | d :: l => match d.target with
    | .fn (.func g) ⟨[]⟩ => match cau g && tyB P g, d.args with
      | true, ⟨[.pointer (some _), .func (.func _) ⟨[]⟩ _]⟩ => ih (.defers l) F H K
      | _, _ => z
    | .collected b => match H.h.get b with
      | some (.o (.deferred (some []))) => Tr.put z .d H.h b fun h => ih (.defers l) F ⟨h, H.n⟩ K
      | _ => z
    | _ => z
inductive Kd where
  | q
  | l
  | n
  | e
def kdOf (o : Op) : Kd := match o with
  | .move _ | .assign _ | .pick .. | .build .. | .makeInterface .. | .nilCheck _ | .binOp .. | .unOp .. | .convert .. | .makeFunc .. | .fieldAddr .. | .field .. | .indexAddr .. | .index .. | .extract .. => .q
  | .load .. | .lookup .. | .slice .. => .l
  | .alloc _ | .box .. | .buildSlice .. | .makeMap .. => .n
  | .call c => match c.callee with
    | .builtin b => match b with
      | .len | .cap => .l
      | .min | .max => .q
      | _ => .e
    | _ => .e
  | _ => .e
def isEff (o : Oper) : Bool := match kdOf o.op with
  | .e => true
  | _ => false
def ancs (ops : List Oper) : Nat := (ops.foldl (fun (p : Nat × Nat) o => (Nat.add p.1 1, Nat.lor p.2 (Nat.shiftLeft (o.after.toList.foldl (fun l e => match Region.binds .any e with
  | true => Nat.lor (Nat.shiftLeft 1 e.on) (Nat.lor l (Nat.mod (Nat.div p.2 (Nat.pow 2 (Nat.mul 64 e.on))) 18446744073709551616))
  | false => l) 0) (Nat.mul 64 p.1)))) (0, 0)).2
def ancM (an i : Nat) : Nat := Nat.mod (Nat.div an (Nat.pow 2 (Nat.mul 64 i))) 18446744073709551616
def isAnc (an k i : Nat) : Bool := Nat.testBit (ancM an i) k
def sub (a b : Nat) : Bool := Nat.beq (Nat.land a b) a
def setB (m i : Nat) : Nat := Nat.lor m (Nat.shiftLeft 1 i)
def lateOrder (ops : List Oper) (an : Nat) : List Nat :=
  let ns := List.range ops.length
  let go := ops.zipIdx.foldl (fun (p : Nat × List Nat) x => match isEff x.1 with
    | true => (Nat.lor p.1 (setB (ancM an x.2) x.2), p.2 ++ (ns.filter fun k => Nat.testBit (ancM an x.2) k && !Nat.testBit p.1 k) ++ [x.2])
    | false => p) (0, [])
  go.2 ++ ns.filter fun k => !Nat.testBit go.1 k
def wrM (ops : List Oper) : Nat := ops.zipIdx.foldl (fun m x => match x.1.dst with
  | some d => Nat.lor m (Nat.shiftLeft (Nat.succ x.2) (Nat.mul 8 d))
  | none => m) 0
def wrAt (m d : Nat) : Nat := Nat.mod (Nat.div m (Nat.pow 2 (Nat.mul 8 d))) 256
def readOk (an wm y : Nat) (x : Operand) : Bool := match x with
  | .tmp t => match wrAt wm t with
    | 0 => true
    | w + 1 => Nat.beq w y || (isAnc an w y || isAnc an y w)
  | _ => true
def slotOk (ops : List Oper) (an wm : Nat) : Bool := ops.zipIdx.all fun x => (match x.1.dst with
  | none => true
  | some d => Nat.beq (wrAt wm d) (Nat.succ x.2)) && x.1.op.operands.toList.all (readOk an wm x.2)
def afterM (an : Nat) (o : Oper) : Nat := o.after.toList.foldl (fun l e => match Region.binds .any e with
  | true => Nat.lor l (Nat.lor (Nat.shiftLeft 1 e.on) (ancM an e.on))
  | false => l) 0
def ancOk (ops : List Oper) (an : Nat) : Bool := ops.zipIdx.all fun x => Nat.beq (ancM an x.2) (afterM an x.1)
def guardOk (ops : List Oper) (an : Nat) : Bool := ops.zipIdx.all fun x => match x.1.guard with
  | none => true
  | some (j, _) => isAnc an j x.2
def noDS (o : Oper) : Bool := match o.op with
  | .defer _ => false
  | .select .. => false
  | _ => true
def drawOk (ops : List Oper) (an : Nat) : Bool :=
  Nat.ble ops.length 64 && (acycB ops && (ops.all noDS && (ops.all opOk && (slotOk ops an (wrM ops) && (ancOk ops an && guardOk ops an)))))
noncomputable def restrK (T : Tr Value) (xs : List Operand) : Tr Value → (Tr Value → β) → β :=
  List.rec (motive := fun _ => Tr Value → (Tr Value → β) → β) (fun A K => K A)
    (fun x _ ih A K => match x with
      | .tmp t => match T.get t with
        | some v => Tr.put z v A t fun A => ih A K
        | none => ih A K
      | _ => ih A K) xs
noncomputable def newV (T : Tr Value) (o : Oper) (k : Nat) (K : Value → Bk → β) : β := match o.op with
  | .alloc t => match tyZero P t with
    | some cs => K (.pointer (some ⟨k, 0, none⟩)) (.c cs t 0)
    | none => z
  | .box t x => K (.pointer (some ⟨k, 0, none⟩)) (.c (arrL (evT T x).cells) t 0)
  | .buildSlice t l ps => match tyE P t with
    | some p => match tyZero P p.1, Nat.ble (Nat.mul l p.2) 16777216, p.2 with
      | some zs, true, sz + 1 => fillRK z T (sz + 1) ps.toList (zerosL zs l) fun cs => K (.slice (some ⟨k, 0, none⟩) l l) (.c cs p.1 0)
      | _, _, _ => z
    | none => z
  | .makeMap t r => match tyM P t, r with
    | some _, none => K (.map (some k)) (.o (.map #[] 0))
    | _, _ => z
  | _ => z
noncomputable def effK (T : Tr Value) (o : Oper) (H : CH) (K : Value → CH → β) : β := match o.op with
  | .call c => match c.callee with
    | .value f => match evT T f with
      | .func (.func g) first cap => match tyB P g with
        | true => ih (.fn g (arrL first ++ (arrL (c.args.map (evT T)) ++ arrL cap))) noF H fun e _ H => match e with
          | .val v => K v H
          | _ => z
        | false => z
      | _ => z
    | _ => opV P z T o H K
  | _ => opV P z T o H K
noncomputable def backOk (an i k n : Nat) (v : Value) (T : Tr Value) (o : Oper) (es : List (Nat × CH)) : Bool :=
  List.rec (motive := fun _ => Bool) true (fun p _ r => match isAnc an p.1 i with
    | true => true
    | false => opV P false T o ⟨p.2.h, k⟩ fun v' H' => match Nat.beq H'.n n && eqVal v v' with
      | true => r
      | false => false) es
noncomputable def wantK (ops : Array Oper) (o : Oper) (T : Tr Value) (K : Bool → β) : β := match o.guard with
  | none => K true
  | some (j, w) => match ops[j]? with
    | some oj => match oj.dst with
      | some d => match evT T (.tmp d) with
        | .bool b => K (b == w)
        | _ => K false
      | none => z
    | none => z
def effOk (an i pd : Nat) (es : List (Nat × CH)) : Bool := sub pd (ancM an i) && match es with
  | [] => true
  | p :: _ => isAnc an p.1 i
noncomputable def drawE (an i : Nat) (o : Oper) (w : Bool) (next : Nat → Nat → Fr → CH → CH → List (Nat × CH) → β) (pd dn : Nat) (F : Fr) (H B : CH) (es : List (Nat × CH)) : β :=
  match effOk an i pd es with
  | true => match w with
    | true => restrK z F.T o.op.operands.toList .lf fun T => effK P z ih T o H fun v H' => putF z o.dst v F fun F => next 0 (setB dn i) F H' H' ((i, B) :: es)
    | false => putF z o.dst undef F fun F => next 0 (setB dn i) F H H ((i, B) :: es)
  | false => z
noncomputable def drawN (an n0 i : Nat) (o : Oper) (k : Kd) (next : Nat → Nat → Fr → CH → CH → List (Nat × CH) → β) (pd dn : Nat) (F : Fr) (H B : CH) (es : List (Nat × CH)) : β :=
  restrK z F.T o.op.operands.toList .lf fun T => match k with
    | .q => opV P z T o ⟨.lf, 0⟩ fun v H' => match Nat.beq H'.n 0 with
      | true => putF z o.dst v F fun F => next (setB pd i) (setB dn i) F H B es
      | false => z
    | .l => opV P z T o ⟨B.h, Nat.add n0 i⟩ fun v H' => match backOk P an i (Nat.add n0 i) H'.n v T o es with
      | true => match Nat.beq H'.n (Nat.add n0 i) with
        | true => putF z o.dst v F fun F => next (setB pd i) (setB dn i) F H B es
        | false => Tr.put z .d H.h (Nat.add n0 i) fun h => putF z o.dst v F fun F => next (setB pd i) (setB dn i) F ⟨h, H.n⟩ B es
      | false => z
    | .n => newV P z T o (Nat.add n0 i) fun v b => Tr.put z b H.h (Nat.add n0 i) fun h => putF z o.dst v F fun F => next (setB pd i) (setB dn i) F ⟨h, H.n⟩ B es
    | .e => z
noncomputable def drawW (an n0 i : Nat) (o : Oper) (w : Bool) (next : Nat → Nat → Fr → CH → CH → List (Nat × CH) → β) (pd dn : Nat) (F : Fr) (H B : CH) (es : List (Nat × CH)) : β :=
  match kdOf o.op with
  | .e => drawE P z ih an i o w next pd dn F H B es
  | k => match w with
    | true => drawN P z an n0 i o k next pd dn F H B es
    | false => putF z o.dst undef F fun F => next (setB pd i) (setB dn i) F H B es
noncomputable def drawL (ops : Array Oper) (an n0 : Nat) (K : Kont β) (l : List Nat) : Nat → Nat → Fr → CH → CH → List (Nat × CH) → β :=
  List.rec (motive := fun _ => Nat → Nat → Fr → CH → CH → List (Nat × CH) → β) (fun _ dn F H _ _ => match Nat.beq (Nat.add dn 1) (Nat.pow 2 ops.size) with
      | true => K .normal F H
      | false => z)
    (fun i _ next pd dn F H B es => match ops[i]? with
      | some o => match sub (ancM an i) dn && !(Nat.testBit dn i) with
        | true => wantK z ops o F.T fun w => drawW P z ih an n0 i o w next pd dn F H B es
        | false => z
      | none => z) l
noncomputable def drawK (ops : Array Oper) (F : Fr) (H : CH) (K : Kont β) : β := match drawOk ops.toList (ancs ops.toList) with
  | true => drawL P z ih ops (ancs ops.toList) H.n K (lateOrder ops.toList (ancs ops.toList)) 0 0 F ⟨H.h, Nat.add H.n ops.size⟩ ⟨H.h, Nat.add H.n ops.size⟩ []
  | false => z
noncomputable def condK (v : Value) (a b : W (RunT β)) (F : Fr) (H : CH) (K : Kont β) : β := match v with
  | .bool v => match v with
    | true => a.f ih F H K
    | false => b.f ih F H K
  | _ => z
noncomputable def codeF (c : Code) : W (RunT β) := Code.rec (motive := fun _ => W (RunT β))
  ⟨fun _ F H K => K .normal F H⟩
  (fun _ ops d => match d with
    | false => opsF P z ops ops.toList
    | true => ⟨fun ih F H K => drawK P z ih ops F H K⟩)
  (fun _ _ a b => ⟨fun ih F H K => a.f ih F H (seqF ih b K)⟩)
  (fun c _ _ a b => match opdOk c with
    | true => ⟨fun ih F H K => condK z ih (evT F.T c) a b F H K⟩
    | false => ⟨fun _ _ _ _ => z⟩)
  (fun id _ b => ⟨fun ih F H K => b.f ih F H (blockC id K)⟩)
  (fun b _ => ⟨fun ih F H K => ih (.lp b) F H K⟩)
  (fun f ps pre body _ _ => ⟨fun ih F H K => rangeK P z ih f ps.toList pre body F H K⟩)
  (fun id => ⟨fun _ F H K => K (.exit id) F H⟩)
  (fun b _ => ⟨fun ih F H K => ih (.sc b b) F H K⟩)
  (fun _ => ⟨fun _ F H K => K .normal F H⟩)
  (fun l => ⟨fun _ F H K => K (.goto l) F H⟩)
  ⟨fun _ F H K => K .ret F H⟩
  (fun _ => ⟨fun _ _ _ _ => z⟩) c
noncomputable def step : Ev β := fun t F H K => Task.casesOn t (fun f args => fnK P z cau te kn ih f args H K) (fun c => (codeF P z c).f ih F H K) (fun b => ih (.code b) F H (loopC ih b K)) (fun b c => scK ih b c F H K) (fun l => defersK P z cau ih l F H K)
noncomputable def ev (f : Nat) : Ev β := Nat.rec (motive := fun _ => Ev β) (fun _ _ _ _ => z) (fun _ ih => step P z cau te kn ih) f
end
end Go.Proofs.YtmhnlkakbadkgaaGreat.Ck
