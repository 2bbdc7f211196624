/- Drawn regions: what is reckoned. Part of a verified reckoner of runs: no condition. -/
import Derived.Test.YtfaemheimmndgaaGreatDoorXM
set_option linter.unusedVariables false
set_option linter.unusedSimpArgs false
namespace Go.Proofs.YtfaemheimmndgaaGreatDoor.XI
noncomputable section

/-! ### 13. Drawn regions: what is reckoned -/
inductive K4 where
  | bl | rd | fre | ch
/-- An operation of a drawn region: what it waits for (bits), its kind, how many of the chain's operations may be done before it. -/
structure Inf where
  o : Oper
  m : Nat
  k : K4
  ks : List Nat

def tb (m i : Nat) : Bool := Nat.beq (Nat.mod (Nat.shiftRight m i) 2) 1
def mask1 (acc : List Nat) (es : List Edge) : Nat := List.rec (motive := fun _ => Nat) 0
  (fun e _ ih => cond (Region.binds .any e) (Nat.lor (Nat.lor (Nat.pow 2 e.on) (Option.rec (motive := fun _ => Nat) 0 (fun x => x) (nt acc e.on))) ih) ih) es
def masks (ops : List Oper) : List Nat → List Nat := List.rec (motive := fun _ => List Nat → List Nat) (fun acc => acc) (fun o _ ih acc => ih (ap acc [mask1 acc o.after.toList])) ops

def isSliceTy (E : Env) (t : TypeId) : Bool := match E.ty t with | some i => (match i.desc with | .slice _ => true | _ => false) | none => true
def isMk (E : Env) (o : Op) : Bool := match o with
  | .alloc _ | .box .. | .buildSlice .. | .makeMap .. | .makeSlice .. => true
  | .convert _ d _ => isSliceTy E d
  | _ => false
def isRd (E : Env) (o : Op) : Bool := match o with
  | .load .. | .slice .. | .lookup .. => true
  | .convert _ d _ => bNot (isSliceTy E d)
  | .call c => match c.callee with | .builtin b => isRdB b | _ => false
  | _ => false
/-- 0: it doesn't look at the heap. 1: it reads. 2: it makes. 3: it may do anything. -/
def kd (E : Env) (o : Op) : Nat := cond (blind o) 0 (cond (isRd E o) 1 (cond (isMk E o) 2 3))

/-- Index, bits, kind. -/
abbrev Pre := Nat × Nat × Nat
def pres (E : Env) (ops : List Oper) : List Nat → Nat → List Pre := List.rec (motive := fun _ => List Nat → Nat → List Pre) (fun _ _ => [])
  (fun o _ ih ms i => List.rec (motive := fun _ => List Pre) [] (fun m ms' _ => (i, m, kd E o.op) :: ih ms' (Nat.succ i)) ms) ops
/-- It is in no order with one that may write. -/
def isFree (ps : List Pre) (p : Pre) : Bool := cond (Nat.beq p.2.2 2) (bNot (al (fun q => cond (Nat.ble 2 q.2.2) (cond (Nat.beq q.1 p.1) true (cond (tb p.2.1 q.1) true (tb q.2.1 p.1))) true) ps)) false
def k4 (ps : List Pre) (p : Pre) : K4 := cond (Nat.beq p.2.2 0) .bl (cond (Nat.beq p.2.2 1) .rd (cond (isFree ps p) .fre .ch))
/-- Index and bits of the chain's operations. -/
abbrev Cms := List (Nat × Nat)
def cmsOf (ps all : List Pre) : Cms := List.rec (motive := fun _ => Cms) [] (fun p _ ih => cond (Nat.ble 2 p.2.2) (cond (isFree all p) ih ((p.1, p.2.1) :: ih)) ih) ps
/-- May just k of the chain's operations be done when i is carried out? -/
def poss (cms : Cms) (i m k : Nat) : Bool := cond (al (fun c => bNot (tb c.2 i)) (tk k cms)) (al (fun c => bNot (tb m c.1)) (dp k cms)) false
def filt (f : Nat → Bool) (n : Nat) : List Nat := Nat.rec (motive := fun _ => List Nat) (cond (f 0) [0] []) (fun k ih => cond (f (Nat.succ k)) (Nat.succ k :: ih) ih) n
def infs (ps : List Pre) (cms : Cms) (qs : List Pre) (ops : List Oper) : List Inf := List.rec (motive := fun _ => List Oper → List Inf) (fun _ => [])
  (fun p _ ih os => List.rec (motive := fun _ => List Inf) [] (fun o os' _ => ⟨o, p.2.1, k4 ps p, cond (Nat.beq p.2.2 1) (filt (poss cms p.1 p.2.1) (ln cms)) []⟩ :: ih os') os) qs ops

structure Plan where
  cms : Cms
  is : List Inf
def planOf (E : Env) (ops : List Oper) : Plan := (fun ps => (fun cms => ⟨cms, infs ps cms ps ops⟩) (cmsOf ps ps)) (pres E ops (masks ops []) 0)

/-- Not laid into the chain's heap yet, where k of its operations are done. -/
def unm (cms : Cms) (k f : Nat) : Bool := al (fun c => bNot (tb c.2 f)) (tk k cms)
def hputA (cms : Cms) (m k : Nat) (h : H) (fs : Fs) : H := hput (fun f => cond (tb m f) (unm cms k f) false) h fs

structure Row where
  d : Option Tmp
  v : AV
  fr : Fr
  b : Bool
structure RS where
  rows : List Row
  hs : List H
  fs : Fs
  fr : Fr

def RS.add (r : Row) (x : Option RS) : Option RS := Option.rec (motive := fun _ => Option RS) none (fun R => some ⟨r :: R.rows, R.hs, R.fs, R.fr⟩) x
def RS.addH (r : Row) (h : H) (x : Option RS) : Option RS := Option.rec (motive := fun _ => Option RS) none (fun R => some ⟨r :: R.rows, h :: R.hs, R.fs, R.fr⟩) x

structure Cx where
  E : Env
  call : CallF
  all : List Oper
  cms : Cms
  n0 : Nat
  s0 : Nat
  stm : Nat

abbrev PassF := Nat → Nat → Fr → H → Fs → Option RS
/-- Step by kind. -/
def pBl (C : Cx) (inf : Inf) (b : Bool) (ih : PassF) : PassF := fun i k fr h fs =>
  match cond b (rdo inf.o.op C.E fr h) (some .undef) with
  | some v => RS.add ⟨inf.o.dst, v, fr, b⟩ (ih (Nat.succ i) k (putF fr inf.o.dst v) h fs)
  | none => none
def pRd (C : Cx) (inf : Inf) (b : Bool) (ih : PassF) : PassF := fun i k fr h fs =>
  match cond b (rdo inf.o.op C.E fr (hputA C.cms inf.m k h fs)) (some .undef) with
  | some v => RS.add ⟨inf.o.dst, v, fr, b⟩ (ih (Nat.succ i) k (putF fr inf.o.dst v) h fs)
  | none => none
def pCh (C : Cx) (inf : Inf) (b : Bool) (ih : PassF) : PassF := fun i k fr h fs =>
  match cond b (opA C.E C.call inf.o.op fr (hputA C.cms inf.m k h fs)) (some (.undef, hputA C.cms inf.m k h fs)) with
  | some (v, h') => RS.addH ⟨inf.o.dst, v, fr, b⟩ h (ih (Nat.succ i) (Nat.succ k) (putF fr inf.o.dst v) h' fs)
  | none => none
def freId (C : Cx) (fs : Fs) : Nat := Nat.add C.n0 (Nat.mul C.s0 (Nat.succ (ln fs)))
def pFre (C : Cx) (inf : Inf) (b : Bool) (ih : PassF) : PassF := fun i k fr h fs =>
  match cond b (opA C.E C.call inf.o.op fr ⟨.e, freId C fs, 0, C.stm⟩) (some (.undef, ⟨.e, freId C fs, 0, C.stm⟩)) with
  | some (v, h') => cond (Nat.ble h'.next (Nat.add (freId C fs) C.stm)) (RS.add ⟨inf.o.dst, v, fr, b⟩ (ih (Nat.succ i) k (putF fr inf.o.dst v) h (ap fs [(i, freId C fs, h'.get (freId C fs))]))) none
  | none => none
def pS (C : Cx) (inf : Inf) (ih : PassF) : PassF := fun i k fr h fs =>
  Option.rec (motive := fun _ => Option RS) none (fun b => K4.rec (motive := fun _ => Cx → Inf → Bool → PassF → PassF) pBl pRd pFre pCh inf.k C inf b ih i k fr h fs) (wantedG C.all fr inf.o.guard)
def pass (C : Cx) (is : List Inf) : PassF := List.rec (motive := fun _ => PassF) (fun _ _ fr h fs => some ⟨[], [h], fs, fr⟩) (fun inf _ ih => pS C inf ih) is

/-- The readers read the same wherever they may be carried out. -/
def eqLS (f : AV → AV → Bool) (x : AV) (ih : List AV → Bool) (ys : List AV) : Bool := List.rec (motive := fun _ => Bool) false (fun y ys' _ => cond (f x y) (ih ys') false) ys
def eqL (f : AV → AV → Bool) (xs : List AV) : List AV → Bool := List.rec (motive := fun _ => List AV → Bool) (fun ys => List.rec (motive := fun _ => Bool) true (fun _ _ _ => false) ys)
  (fun x _ ih => eqLS f x ih) xs
def eqK (a b : IntKind) : Bool := decide (a = b)
def eqFK (a b : FloatKind) : Bool := decide (a = b)
def eqF1 (a b : Fn) : Bool := match a, b with | .func f, .func g => Nat.beq f g | _, _ => false
def eqAV (n : Nat) : AV → AV → Bool := Nat.rec (motive := fun _ => AV → AV → Bool) (fun _ _ => false)
  (fun _ ih x y => match x, y with
    | .b p, .b q => cond p q (bNot q)
    | .i k n, .i l m => cond (iEq n m) (eqK k l) false
    | .f k n, .f l m => cond (Nat.beq n m) (eqFK k l) false
    | .s l, .s m => eqN l m
    | .nilp, .nilp | .nils, .nils | .nilm, .nilm | .nilf, .nilf | .nili, .nili => true
    | .p b o, .p c q => cond (Nat.beq b c) (Nat.beq o q) false
    | .sl b o n c z, .sl b' o' n' c' z' => cond (Nat.beq b b') (cond (Nat.beq o o') (cond (Nat.beq n n') (cond (Nat.beq c c') (Nat.beq z z') false) false) false) false
    | .m b, .m c => Nat.beq b c
    | .fn g xs ys, .fn g' xs' ys' => cond (eqF1 g g') (cond (eqL ih xs xs') (eqL ih ys ys') false) false
    | .ifc t v, .ifc u v' => cond (Nat.beq t u) (ih v v') false
    | .agg xs, .agg ys => eqL ih xs ys
    | .tup xs, .tup ys => eqL ih xs ys
    | .ro xs n z, .ro xs' n' z' => cond (eqL ih xs xs') (cond (Nat.beq n n') (Nat.beq z z') false) false
    | .rp xs, .rp ys => eqL ih xs ys
    | .tok i, .tok j => Nat.beq i j
    | _, _ => false) n

def rdSame (C : Cx) (hs : List H) (fs : Fs) (inf : Inf) (r : Row) : Bool := cond r.b
  (al (fun k => match nt hs k with | some h => (match rdo inf.o.op C.E r.fr (hputA C.cms inf.m k h fs) with | some v => eqAV 8 v r.v | none => false) | none => false) inf.ks) true
def rdsOk (C : Cx) (hs : List H) (fs : Fs) (is : List Inf) : List Row → Bool := List.rec (motive := fun _ => List Row → Bool) (fun _ => true)
  (fun inf _ ih rows => List.rec (motive := fun _ => Bool) false (fun r rs _ => K4.rec (motive := fun _ => Bool) (ih rs) (cond (rdSame C hs fs inf r) (ih rs) false) (ih rs) (ih rs) inf.k) rows) is

/-! What is checked of a region once. -/
def uses (all : List Oper) (o : Oper) : List Nat := ap (opTmps o.op) (match o.guard with
  | some (j, _) => (match nt all j with | some oj => (match oj.dst with | some t => [t] | none => []) | none => [])
  | none => [])
def memN (n : Nat) (l : List Nat) : Bool := bNot (al (fun x => bNot (Nat.beq x n)) l)
def clash (all : List Oper) (a b : Oper) : Bool := cond (match a.dst with | some t => cond (memN t (uses all b)) true (match b.dst with | some u => Nat.beq t u | none => false) | none => false) true
  (match b.dst with | some u => memN u (uses all a) | none => false)
/-- Of i's clashes with later ones. -/
def laterOk (all : List Oper) (i : Nat) (o : Oper) (rest : List Inf) : Bool := al (fun x => cond (clash all o x.o) (tb x.m i) true) rest
def backOk (i : Nat) (es : List Edge) : Bool := al (fun e => cond (Region.binds .any e) (Nat.ble (Nat.succ e.on) i) true) es
def kOk (cms : Cms) (i k : Nat) (inf : Inf) : Bool := K4.rec (motive := fun _ => Bool) (blind inf.o.op) (al (fun j => cond (poss cms i inf.m j) (bNot (al (fun x => bNot (Nat.beq x j)) inf.ks)) true) (filt (fun _ => true) (ln cms))) true
  (match nt cms k with | some c => cond (Nat.beq c.1 i) (Nat.beq c.2 inf.m) false | none => false) inf.k
def kNext (k : Nat) (x : K4) : Nat := K4.rec (motive := fun _ => Nat) k k k (Nat.succ k) x
def planS (all : List Oper) (cms : Cms) (is : List Inf) : Nat → Nat → Bool := List.rec (motive := fun _ => Nat → Nat → Bool) (fun _ k => Nat.beq k (ln cms))
  (fun inf rest ih i k => cond (Nat.ble (Nat.succ inf.m) (Nat.pow 2 i)) (cond (backOk i inf.o.after.toList) (cond (laterOk all i inf.o rest) (cond (kOk cms i k inf) (ih (Nat.succ i) (kNext k inf.k)) false) false) false) false) is
def chainOk (cms : Cms) : Bool := List.rec (motive := fun _ => Bool) true (fun c rest ih => cond (al (fun d => tb d.2 c.1) rest) ih false) cms
def planOk (all : List Oper) (p : Plan) : Bool := cond (planS all p.cms p.is 0 0) (chainOk p.cms) false

def nFre (is : List Inf) : Nat := List.rec (motive := fun _ => Nat) 0 (fun inf _ ih => K4.rec (motive := fun _ => Nat) ih ih (Nat.succ ih) ih inf.k) is
def maxN (a b : Nat) : Nat := cond (Nat.ble a b) b a
/-- The heap behind the region. -/
def endH (C : Cx) (wb : Nat) (F : Nat) (h : H) (fs : Fs) : H := (fun g => ⟨g.t, Nat.rec (motive := fun _ => Nat) g.next (fun _ _ => maxN g.next (Nat.add C.n0 C.stm)) F, wb, C.s0⟩) (hput (fun f => unm C.cms (ln C.cms) f) h fs)
def drawRun (C : Cx) (p : Plan) (fr : Fr) (h : H) : Out :=
  match pass C p.is 0 0 fr ⟨h.t, h.next, h.wb, C.stm⟩ [] with
  | none => .no
  | some R => cond (rdsOk C R.hs R.fs p.is R.rows) (match nt R.hs (ln C.cms) with | some g => .nor R.fr (endH C h.wb (nFre p.is) g R.fs) | none => .no) .no
def drawPlan (E : Env) (call : CallF) (ops : List Oper) (p : Plan) (fr : Fr) (h : H) : Out :=
  cond (planOk ops p) (drawRun ⟨E, call, ops, p.cms, h.next, h.st, Nat.mul h.st (Nat.succ (nFre p.is))⟩ p fr h) .no
def drawA (E : Env) (call : CallF) : DrawF := fun ops fr h => drawPlan E call ops (planOf E ops) fr h
end
end Go.Proofs.YtfaemheimmndgaaGreatDoor.XI
