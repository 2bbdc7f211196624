/- Regions, code, calls: what is reckoned. Part of a verified reckoner of runs: no condition. -/
import Derived.Test.YtfaemheimmndgaaGreatDoorXI
set_option linter.unusedVariables false
set_option linter.unusedSimpArgs false
namespace Go.Proofs.YtfaemheimmndgaaGreatDoor.XI
noncomputable section

/-! ### 9. Regions, code, calls -/

/-- Is the operation carried out? none: that isn't known. -/
def wantedG (ops : List Oper) (fr : Fr) (g : Option (Nat × Bool)) : Option Bool := match g with
  | none => some true
  | some (j, want) => match nt ops j with
    | none => some false
    | some oj => match oj.dst with
      | none => some false
      | some t => match fr.get t with
        | none => some false
        | some (.b b) => some (Bool.rec (motive := fun _ => Bool) (bNot want) want b)
        | some .any => none
        | some (.tok _) => none
        | some _ => some false

/-- What is called: a function; the giving of a value to a loop. -/
inductive Tg where
  | fn (f : FuncId)
  | yl (b : Nat)
/-- What calls answer. -/
abbrev CallF := Tg → List AV → H → Option (AV × H)

inductive Out where
  | no
  | nor (fr : Fr) (h : H)
  | ret (fr : Fr) (h : H)
  | ex (i : Nat) (fr : Fr) (h : H)

def Out.seq (k : Fr → H → Out) (o : Out) : Out := Out.rec (motive := fun _ => Out) .no k .ret .ex o
def Out.blk (id : Nat) (o : Out) : Out := Out.rec (motive := fun _ => Out) .no .nor .ret (fun i fr h => Bool.rec (motive := fun _ => Out) (.ex i fr h) (.nor fr h) (Nat.beq i id)) o

/-- One operation that is carried out. -/
def opA (E : Env) (call : CallF) (op : Op) (fr : Fr) (h : H) : Option (AV × H) :=
  match aop op E fr h with
  | some (.val v h') => some (v, h')
  | some (.call f xs) => call (.fn f) xs h
  | some (.round b xs) => call (.yl b) xs h
  | none => none

def opsS (E : Env) (call : CallF) (all : List Oper) (o : Oper) (ih : Fr → H → Out) (fr : Fr) (h : H) : Out :=
  Option.rec (motive := fun _ => Out) .no (fun b => Bool.rec (motive := fun _ => Out)
    (ih (putF fr o.dst .undef) h)
    (Option.rec (motive := fun _ => Out) .no (fun p => Prod.rec (motive := fun _ => Out) (fun v h' => ih (putF fr o.dst v) h') p) (opA E call o.op fr h)) b) (wantedG all fr o.guard)
def opsA (E : Env) (call : CallF) (all : List Oper) (ops : List Oper) : Fr → H → Out :=
  List.rec (motive := fun _ => Fr → H → Out) .nor (fun o _ ih => opsS E call all o ih) ops

def iter (body : Fr → H → Out) (n : Nat) : Fr → H → Out := Nat.rec (motive := fun _ => Fr → H → Out) (fun _ _ => .no) (fun _ ih fr h => Out.seq ih (body fr h)) n

def cBranch (x : AV) (a b : Out) : Out := match x with
  | .b t => Bool.rec (motive := fun _ => Out) b a t
  | _ => .no

/-- What a drawn region answers. -/
abbrev DrawF := List Oper → Fr → H → Out

/-- Within a round of loop b? -/
def rbOk (h : H) (rb : Option Nat) : Bool := match rb with | none => true | some b => (match h.get b with | some (.loop _) => true | _ => false)
/-- The jump that a round has left. -/
def jumpA (pend : Option Code) (fr : Fr) (h : H) : Out := match pend with
  | none => .nor fr h
  | some .ret => .ret fr h
  | some (.exit i) => .ex i fr h
  | some _ => .no
def afterA (b : Nat) (fr : Fr) (h : H) : Out := match h.get b with
  | some (.loop k) => cond (Nat.beq k.st 1) .no (match h.write b .dead with
    | some h3 => jumpA k.pend fr h3
    | none => .no)
  | _ => .no
def rangeA (E : Env) (call : CallF) (n : Nat) (rb : Option Nat) (f : Operand) (ps : Array Tmp) (asg body : Code) (fr : Fr) (h : H) : Out := match ev fr f with
  | .fn (.func g) fs cs => match E.fn g with
    | some _ => cond (rbOk h rb) (match call (.fn g) (ap fs (.yl h.next :: cs)) (h.push (.loop ⟨0, none, fr, ps.toList, asg, body, n⟩)) with
        | some (_, h2) => afterA h.next fr h2
        | none => .no) .no
    | none => .no
  | _ => .no

def execC (E : Env) (call : CallF) (rd : DrawF) (N n : Nat) (rb : Option Nat) (c : Code) : Fr → H → Out := Code.rec (motive := fun _ => Fr → H → Out)
  .nor
  (fun _ ops draw => Bool.rec (motive := fun _ => Fr → H → Out) (opsA E call ops.toList ops.toList) (rd ops.toList) draw)
  (fun _ _ ia ib fr h => Out.seq ib (ia fr h))
  (fun c _ _ ia ib fr h => cBranch (ev fr c) (ia fr h) (ib fr h))
  (fun id _ ib fr h => Out.blk id (ib fr h))
  (fun _ ib fr h => iter ib N fr h)
  (fun f ps asg body _ _ fr h => rangeA E call n rb f ps asg body fr h)
  (fun i fr h => .ex i fr h)
  (fun _ ib fr h => ib fr h)
  (fun _ => .nor)
  (fun _ _ _ => .no)
  .ret
  (fun _ _ _ => .no) c

def resA (E : Env) (h : H) (fr : Fr) (rs : List ResultVar) : Option (List AV) := List.rec (motive := fun _ => Option (List AV)) (some [])
  (fun r _ ih => ResultVar.rec (motive := fun _ => Option (List AV))
    (fun t => match ih with | some xs => some (slotOf (fr.get t) :: xs) | none => none)
    (fun a t => match aLoad E h t (slotOf (fr.get a)), ih with
      | some x, some xs => some (x :: xs)
      | _, _ => none) r) rs
def oneOf : List AV → AV
  | [x] => x
  | xs => .tup xs

def frOf (xs : List AV) : Nat → Fr → Fr := List.rec (motive := fun _ => Nat → Fr → Fr) (fun _ fr => fr) (fun x _ ih i fr => ih (Nat.succ i) (fr.put i (some x))) xs

def endA (E : Env) (rs : List ResultVar) (o : Out) : Option (AV × H) :=
  Out.rec (motive := fun _ => Option (AV × H)) none
    (fun fr h => match resA E h fr rs with | some xs => some (oneOf xs, h) | none => none)
    (fun fr h => match resA E h fr rs with | some xs => some (oneOf xs, h) | none => none)
    (fun _ _ _ => none) o

def dstOk (n : Nat) (d : Option Tmp) : Bool := match d with | some d => Nat.ble (Nat.succ d) n | none => true
def codeOk (n : Nat) (c : Code) : Bool := Code.rec (motive := fun _ => Bool)
  true (fun _ ops _ => al (fun o => dstOk n o.dst) ops.toList) (fun _ _ x y => cond x y false) (fun _ _ _ x y => cond x y false) (fun _ _ x => x) (fun _ x => x) (fun _ ps _ _ x y => cond x (cond y (al (fun t => Nat.ble (Nat.succ t) n) ps.toList) false) false) (fun _ => true) (fun _ x => x) (fun _ => true) (fun _ => false) true (fun _ => false) c

def bodyA (E : Env) (call : CallF) (rd : DrawF) (N : Nat) (F : Func) (args : List AV) (h : H) : Option (AV × H) :=
  match F.body with
  | none => none
  | some c => cond (cond (codeOk F.ntmps c) (Nat.ble (ln args) F.ntmps) false) (endA E F.results.toList (execC E call rd N F.ntmps none c (frOf args 0 .e) h)) none

/-- The values that a round gets, put where they go. -/
def putPs (ps : List Nat) : List AV → Fr → Fr := List.rec (motive := fun _ => List AV → Fr → Fr) (fun _ fr => fr)
  (fun t _ ih xs fr => List.rec (motive := fun _ => Fr) fr (fun x xs' _ => ih xs' (fr.put t (some x))) xs) ps
def stJ (jump : Option Code) : Nat := match jump with | none => 0 | some _ => 2
def goJ (jump : Option Code) : Bool := match jump with | none => true | some _ => false
def endRA (b : Nat) (jump : Option Code) (h : H) : Option (AV × H) := match h.get b with
  | some (.loop k) => match h.write b (.loop ⟨stJ jump, jump, k.fr, k.ps, k.asg, k.body, k.n⟩) with
    | some h' => some (.b (goJ jump), h')
    | none => none
  | _ => none
def leaveA (b : Nat) (o : Out) : Option (AV × H) := Out.rec (motive := fun _ => Option (AV × H)) none (fun _ h => endRA b none h) (fun _ h => endRA b (some .ret) h) (fun i _ h => endRA b (some (.exit i)) h) o
def roundB (E : Env) (call : CallF) (rd : DrawF) (N b : Nat) (k : LoopA) (fr : Fr) (h : H) : Option (AV × H) := match h.get b with
  | some (.loop k1) => cond (Nat.beq k1.st 0) (match h.write b (.loop ⟨1, k1.pend, k1.fr, k1.ps, k1.asg, k1.body, k1.n⟩) with
      | some h2 => leaveA b (execC E call rd N k.n (some b) k.body fr h2)
      | none => none) none
  | _ => none
/-- One round. -/
def roundA (E : Env) (call : CallF) (rd : DrawF) (N b : Nat) (xs : List AV) (h : H) : Option (AV × H) := match h.get b with
  | some (.loop k) => cond (cond (codeOk k.n k.asg) (cond (codeOk k.n k.body) (cond (Nat.beq (ln xs) (ln k.ps)) (al (fun t => Nat.ble (Nat.succ t) k.n) k.ps) false) false) false)
      (Out.rec (motive := fun _ => Option (AV × H)) none (fun fr1 h1 => roundB E call rd N b k fr1 h1) (fun _ _ => none) (fun _ _ _ => none) (execC E call rd N k.n (some b) k.asg (putPs k.ps xs k.fr) h)) none
  | _ => none

/-- What is called, gone through. -/
def callT (E : Env) (call : CallF) (rd : DrawF) (N : Nat) (t : Tg) (args : List AV) (h : H) : Option (AV × H) := match t with
  | .fn f => (match E.fn f with
    | some F => bodyA E call rd N F args h
    | none => none)
  | .yl b => roundA E call rd N b args h
/-- Calls, d deep at most. -/
def callN (E : Env) (rd : CallF → DrawF) (N : Nat) (d : Nat) : CallF := Nat.rec (motive := fun _ => CallF) (fun _ _ _ => none)
  (fun _ ih t args h => callT E ih (rd ih) N t args h) d
end
end Go.Proofs.YtfaemheimmndgaaGreatDoor.XI
