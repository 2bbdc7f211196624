/- Regions, code, calls: what is reckoned. Part of a verified reckoner of closed runs: no condition. -/
import Derived.Test.YtnamonkinpdgdaaGreatDoorXI
set_option linter.unusedVariables false
set_option linter.unusedSimpArgs false
namespace Go.Proofs.YtnamonkinpdgdaaGreatDoor.XI
noncomputable section

/-! ### 9. Regions, code, calls -/

/-- Is the operation carried out? none: that isn't known. -/
def wantedG (ops : List Oper) (fr : Fr) (g : Option (Nat × Bool)) : Option Bool := match g with
  | none => some true
  | some (j, want) => match nt ops j with
    | none => some false
    | some oj => match oj.dst with
      | none => some false
      | some t => match fr.get t with
        | none => some false
        | some (.b b) => some (Bool.rec (motive := fun _ => Bool) (bNot want) want b)
        | some .any => none
        | some _ => some false

/-- What calls answer. -/
abbrev CallF := FuncId → List AV → H → Option (AV × H)

inductive Out where
  | no
  | nor (fr : Fr) (h : H)
  | ret (fr : Fr) (h : H)
  | ex (i : Nat) (fr : Fr) (h : H)

def Out.seq (k : Fr → H → Out) (o : Out) : Out := Out.rec (motive := fun _ => Out) .no k .ret .ex o
def Out.blk (id : Nat) (o : Out) : Out := Out.rec (motive := fun _ => Out) .no .nor .ret (fun i fr h => Bool.rec (motive := fun _ => Out) (.ex i fr h) (.nor fr h) (Nat.beq i id)) o

/-- One operation that is carried out. -/
def opA (E : Env) (call : CallF) (op : Op) (fr : Fr) (h : H) : Option (AV × H) :=
  match aop op E fr h with
  | some (.val v h') => some (v, h')
  | some (.call f xs) => call f xs h
  | none => none

def opsS (E : Env) (call : CallF) (all : List Oper) (o : Oper) (ih : Fr → H → Out) (fr : Fr) (h : H) : Out :=
  Option.rec (motive := fun _ => Out) .no (fun b => Bool.rec (motive := fun _ => Out)
    (ih (putF fr o.dst .undef) h)
    (Option.rec (motive := fun _ => Out) .no (fun p => Prod.rec (motive := fun _ => Out) (fun v h' => ih (putF fr o.dst v) h') p) (opA E call o.op fr h)) b) (wantedG all fr o.guard)
def opsA (E : Env) (call : CallF) (all : List Oper) (ops : List Oper) : Fr → H → Out :=
  List.rec (motive := fun _ => Fr → H → Out) .nor (fun o _ ih => opsS E call all o ih) ops

def iter (body : Fr → H → Out) (n : Nat) : Fr → H → Out := Nat.rec (motive := fun _ => Fr → H → Out) (fun _ _ => .no) (fun _ ih fr h => Out.seq ih (body fr h)) n

def cBranch (x : AV) (a b : Out) : Out := match x with
  | .b t => Bool.rec (motive := fun _ => Out) b a t
  | _ => .no

/-- What a drawn region answers. -/
abbrev DrawF := List Oper → Fr → H → Out

def execC (E : Env) (call : CallF) (rd : DrawF) (N : Nat) (c : Code) : Fr → H → Out := Code.rec (motive := fun _ => Fr → H → Out)
  .nor
  (fun _ ops draw => Bool.rec (motive := fun _ => Fr → H → Out) (opsA E call ops.toList ops.toList) (rd ops.toList) draw)
  (fun _ _ ia ib fr h => Out.seq ib (ia fr h))
  (fun c _ _ ia ib fr h => cBranch (ev fr c) (ia fr h) (ib fr h))
  (fun id _ ib fr h => Out.blk id (ib fr h))
  (fun _ ib fr h => iter ib N fr h)
  (fun _ _ _ _ _ _ _ _ => .no)
  (fun i fr h => .ex i fr h)
  (fun _ _ _ _ => .no)
  (fun _ => .nor)
  (fun _ _ _ => .no)
  .ret
  (fun _ _ _ => .no) c

def resA (E : Env) (h : H) (fr : Fr) (rs : List ResultVar) : Option (List AV) := List.rec (motive := fun _ => Option (List AV)) (some [])
  (fun r _ ih => ResultVar.rec (motive := fun _ => Option (List AV))
    (fun t => match ih with | some xs => some (slotOf (fr.get t) :: xs) | none => none)
    (fun a t => match aLoad E h t (slotOf (fr.get a)), ih with
      | some x, some xs => some (x :: xs)
      | _, _ => none) r) rs
def oneOf : List AV → AV
  | [x] => x
  | xs => .tup xs

def frOf (xs : List AV) : Nat → Fr → Fr := List.rec (motive := fun _ => Nat → Fr → Fr) (fun _ fr => fr) (fun x _ ih i fr => ih (Nat.succ i) (fr.put i (some x))) xs

def endA (E : Env) (rs : List ResultVar) (o : Out) : Option (AV × H) :=
  Out.rec (motive := fun _ => Option (AV × H)) none
    (fun fr h => match resA E h fr rs with | some xs => some (oneOf xs, h) | none => none)
    (fun fr h => match resA E h fr rs with | some xs => some (oneOf xs, h) | none => none)
    (fun _ _ _ => none) o

def dstOk (n : Nat) (d : Option Tmp) : Bool := match d with | some d => Nat.ble (Nat.succ d) n | none => true
def codeOk (n : Nat) (c : Code) : Bool := Code.rec (motive := fun _ => Bool)
  true (fun _ ops _ => al (fun o => dstOk n o.dst) ops.toList) (fun _ _ x y => cond x y false) (fun _ _ _ x y => cond x y false) (fun _ _ x => x) (fun _ x => x) (fun _ _ _ _ _ _ => false) (fun _ => true) (fun _ _ => false) (fun _ => true) (fun _ => false) true (fun _ => false) c

def bodyA (E : Env) (call : CallF) (rd : DrawF) (N : Nat) (F : Func) (args : List AV) (h : H) : Option (AV × H) :=
  match F.body with
  | none => none
  | some c => cond (cond (codeOk F.ntmps c) (Nat.ble (ln args) F.ntmps) false) (endA E F.results.toList (execC E call rd N c (frOf args 0 .e) h)) none

/-- Calls, d deep at most. -/
def callN (E : Env) (rd : CallF → DrawF) (N : Nat) (d : Nat) : CallF := Nat.rec (motive := fun _ => CallF) (fun _ _ _ => none)
  (fun _ ih f args h => match E.fn f with
    | some F => bodyA E ih (rd ih) N F args h
    | none => none) d
end
end Go.Proofs.YtnamonkinpdgdaaGreatDoor.XI
