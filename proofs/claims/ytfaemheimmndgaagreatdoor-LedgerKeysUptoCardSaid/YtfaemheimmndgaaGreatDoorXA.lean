/- Abstract values, an abstract heap, and what they say of a world. Part of a verified reckoner of runs: no condition. -/
import Derived.Test.YtfaemheimmndgaaGreatDoorXR2
import Derived.Orders
import Derived.Laws.World
import Derived.Laws.Cells
import Derived.Laws.Rows
import Derived.Laws.AppendOwn
set_option linter.unusedVariables false
set_option linter.unusedSimpArgs false
namespace Go.Proofs.YtfaemheimmndgaaGreatDoor.XI
noncomputable section
theorem cond_ble {α : Type} (a b : Nat) (x y : α) : cond (Nat.ble a b) x y = if a ≤ b then x else y := by
  by_cases h : a ≤ b
  · rw [if_pos h, show Nat.ble a b = true by rw [Nat.ble_eq]; exact h]; rfl
  · have : Nat.ble a b = false := by rw [← Bool.not_eq_true, Nat.ble_eq]; exact h
    rw [if_neg h, this]; rfl
theorem ble_dec (a b : Nat) : Nat.ble a b = decide (a ≤ b) := by
  by_cases h : a ≤ b
  · rw [show Nat.ble a b = true by rw [Nat.ble_eq]; exact h]; simp [h]
  · have : Nat.ble a b = false := by rw [← Bool.not_eq_true, Nat.ble_eq]; exact h
    rw [this]; simp [h]
theorem cond_eq_if {α : Type} (c : Bool) (x y : α) : cond c x y = if c then x else y := by cases c <;> rfl

/-! ### 1. Abstract values -/
inductive AV where
  | any
  | b (x : Bool)
  | i (k : IntKind) (n : Int)
  | f (k : FloatKind) (bits : Nat)
  | s (l : List Nat)
  | nilp | nils | nilm | nilf | nili
  | p (b o : Nat)
  | sl (b o n c z : Nat)
  | m (b : Nat)
  | fn (g : Fn) (first cap : List AV)
  | ifc (t : TypeId) (v : AV)
  | agg (cs : List AV)
  | tup (vs : List AV)
  | ro (cs : List AV) (n z : Nat)
  | rp (cs : List AV)
  /-- The value of this name. -/
  | tok (i : Nat)
  /-- The function that gives a value to the loop of this number. -/
  | yl (b : Nat)
  deriving Inhabited

def AV.cells : AV → List AV
  | .agg cs => cs
  | v => [v]
/-- A value of one cell. -/
def AV.one : AV → Bool
  | .agg _ | .tup _ | .any => false
  | _ => true
def AV.undef : AV := .tup []

structure Loc where
  blk : Nat
  off : Nat
  sz : Nat
  deriving Inhabited

/-- A string's bytes as numbers. -/
def nb (s : ByteArray) : List Nat := s.data.toList.map (·.toNat)
theorem nb_length (s : ByteArray) : (nb s).length = s.size := by simp [nb]
theorem nb_lt (s : ByteArray) : ∀ x ∈ nb s, x < 256 := by
  intro x hx
  simp only [nb, List.mem_map] at hx
  obtain ⟨u, _, rfl⟩ := hx
  exact u.toNat_lt
theorem nb_inj {s t : ByteArray} (h : nb s = nb t) : s = t := by
  have h' : s.data.toList = t.data.toList := by
    simp only [nb] at h
    exact (List.map_inj_right (fun a b h => UInt8.toNat_inj.1 h)).1 h
  cases s; cases t
  simp only [ByteArray.mk.injEq]
  exact Array.toList_inj.1 h'

/-- What stays as it is: cells of memory; and values that are only named. -/
structure Mem where
  cell : Addr → Option Value
  val : Nat → Option Value
instance : CoeFun Mem (fun _ => Addr → Option Value) := ⟨Mem.cell⟩

mutual
/-- What an abstract value says of a value: σ: where the abstract blocks lie; A: which of them are there; M: memory that stays as it is. -/
inductive RelV (σ : Nat → Loc) (A : Nat → Prop) (M : Mem) : AV → Value → Prop
  | any (v : Value) : RelV σ A M .any v
  | b (x : Bool) : RelV σ A M (.b x) (.bool x)
  | i (k : IntKind) (n : Int) : RelV σ A M (.i k n) (.int k n)
  | f (k : FloatKind) (n : Nat) : RelV σ A M (.f k n) (.float k n)
  | s (l : List Nat) (t : ByteArray) (h : nb t = l) : RelV σ A M (.s l) (.string t)
  | nilp : RelV σ A M .nilp (.pointer none)
  | nils : RelV σ A M .nils (.slice none 0 0)
  | nilm : RelV σ A M .nilm (.map none)
  | nilf : RelV σ A M .nilf .nilFunc
  | nili : RelV σ A M .nili .nilIface
  | p (b o : Nat) (h : A b) (a : Addr) (ha : a = ⟨(σ b).blk, (σ b).off + o, none⟩) : RelV σ A M (.p b o) (.pointer (some a))
  | sl (b o n c z cap : Nat) (a : Addr) (h : A b) (hn : n ≤ c) (hc : c ≤ cap) (ha : 0 < cap → a = ⟨(σ b).blk, (σ b).off + o, none⟩) (hz : (σ b).off + o + cap * z ≤ (σ b).sz) : RelV σ A M (.sl b o n c z) (.slice (some a) n cap)
  | m (b : Nat) (h : A b) (r : Nat) (hr : r = (σ b).blk) : RelV σ A M (.m b) (.map (some r))
  | fn (g : Fn) (fs cs : List AV) (first cap : Array Value) (h1 : RelL σ A M fs first.toList) (h2 : RelL σ A M cs cap.toList) : RelV σ A M (.fn g fs cs) (.func g first cap)
  | ifc (t : TypeId) (x : AV) (v : Value) (h : RelV σ A M x v) : RelV σ A M (.ifc t x) (.iface t v)
  | agg (cs : List AV) (vs : Array Value) (h : RelL σ A M cs vs.toList) : RelV σ A M (.agg cs) (.agg vs)
  | tup (cs : List AV) (vs : Array Value) (h : RelL σ A M cs vs.toList) : RelV σ A M (.tup cs) (.tuple vs)
  | ro (cs : List AV) (n z cap : Nat) (a : Addr) (vs : List Value) (hl : cs.length = n * z) (hn : n ≤ cap) (h : RelL σ A M cs vs) (hm : ∀ j v, vs[j]? = some v → M (a.add j) = some v) : RelV σ A M (.ro cs n z) (.slice (some a) n cap)
  | ro0 (z : Nat) : RelV σ A M (.ro [] 0 z) (.slice none 0 0)
  | rp (cs : List AV) (a : Addr) (vs : List Value) (h : RelL σ A M cs vs) (hm : ∀ j v, vs[j]? = some v → M (a.add j) = some v) : RelV σ A M (.rp cs) (.pointer (some a))
  | yl (b : Nat) (h : A b) (r : Nat) (hr : r = (σ b).blk) : RelV σ A M (.yl b) (.func (.yield r) #[] #[])
  | tok (i : Nat) (v : Value) (hv : M.val i = some v) (h1 : v.oneCell' = true) (h2 : v.cells = #[v]) : RelV σ A M (.tok i) v
inductive RelL (σ : Nat → Loc) (A : Nat → Prop) (M : Mem) : List AV → List Value → Prop
  | nil : RelL σ A M [] []
  | cons (x : AV) (v : Value) (xs : List AV) (vs : List Value) (h : RelV σ A M x v) (t : RelL σ A M xs vs) : RelL σ A M (x :: xs) (v :: vs)
end

section
variable {σ : Nat → Loc} {A : Nat → Prop} {M : Mem}

theorem RelL.length {xs : List AV} {vs : List Value} (h : RelL σ A M xs vs) : xs.length = vs.length := by
  induction xs generalizing vs with
  | nil => cases h; rfl
  | cons x xs ih => cases h with | cons _ _ _ _ h t => simp [ih t]

theorem RelL.get {xs : List AV} {vs : List Value} (h : RelL σ A M xs vs) : ∀ {j : Nat} {x : AV}, xs[j]? = some x → ∃ v, vs[j]? = some v ∧ RelV σ A M x v := by
  induction xs generalizing vs with
  | nil => intro j x hx; simp at hx
  | cons y ys ih =>
    intro j x hx
    cases h with
    | cons _ v _ vs h t =>
      cases j with
      | zero => simp at hx; subst hx; exact ⟨v, rfl, h⟩
      | succ j => simpa using ih t (by simpa using hx)

theorem RelL.get' {xs : List AV} {vs : List Value} (h : RelL σ A M xs vs) {j : Nat} {v : Value} (hv : vs[j]? = some v) : ∃ x, xs[j]? = some x ∧ RelV σ A M x v := by
  have hj : j < xs.length := by
    rw [h.length]
    rcases Nat.lt_or_ge j vs.length with h | h
    · exact h
    · simp [List.getElem?_eq_none h] at hv
  obtain ⟨v', hv', hr⟩ := h.get (List.getElem?_eq_getElem hj)
  rw [hv] at hv'
  cases hv'
  exact ⟨_, List.getElem?_eq_getElem hj, hr⟩

theorem RelL.set {xs : List AV} {vs : List Value} (h : RelL σ A M xs vs) {x : AV} {v : Value} (hx : RelV σ A M x v) (j : Nat) : RelL σ A M (xs.set j x) (vs.set j v) := by
  induction xs generalizing vs j with
  | nil => cases h; exact .nil
  | cons y ys ih =>
    cases h with
    | cons _ u _ vs h t =>
      cases j with
      | zero => exact .cons _ _ _ _ hx t
      | succ j => exact .cons _ _ _ _ h (ih t j)

theorem RelL.append {xs ys : List AV} {vs us : List Value} (h : RelL σ A M xs vs) (k : RelL σ A M ys us) : RelL σ A M (xs ++ ys) (vs ++ us) := by
  induction xs generalizing vs with
  | nil => cases h; exact k
  | cons y zs ih => cases h with | cons _ u _ vs h t => exact .cons _ _ _ _ h (ih t)

theorem RelL.take {xs : List AV} {vs : List Value} (h : RelL σ A M xs vs) (n : Nat) : RelL σ A M (xs.take n) (vs.take n) := by
  induction xs generalizing vs n with
  | nil => cases h; simp; exact .nil
  | cons y zs ih =>
    cases h with
    | cons _ u _ vs h t =>
      cases n with
      | zero => exact .nil
      | succ n => exact .cons _ _ _ _ h (ih t n)

theorem RelL.drop {xs : List AV} {vs : List Value} (h : RelL σ A M xs vs) (n : Nat) : RelL σ A M (xs.drop n) (vs.drop n) := by
  induction xs generalizing vs n with
  | nil => cases h; simp; exact .nil
  | cons y zs ih =>
    cases h with
    | cons _ u _ vs h t =>
      cases n with
      | zero => exact .cons _ _ _ _ h t
      | succ n => exact ih t n

theorem RelL.of_get {xs : List AV} {vs : List Value} (hl : xs.length = vs.length) (h : ∀ (j : Nat) (x : AV) (v : Value), xs[j]? = some x → vs[j]? = some v → RelV σ A M x v) : RelL σ A M xs vs := by
  induction xs generalizing vs with
  | nil => cases vs with | nil => exact .nil | cons _ _ => simp at hl
  | cons y zs ih =>
    cases vs with
    | nil => simp at hl
    | cons u us =>
      refine .cons _ _ _ _ (h 0 y u rfl rfl) (ih (by simpa using hl) fun (j : Nat) (x : AV) (v : Value) hx hv => h (j + 1) x v (by simpa using hx) (by simpa using hv))

theorem RelL.replicate {x : AV} {v : Value} (h : RelV σ A M x v) (n : Nat) : RelL σ A M (List.replicate n x) (List.replicate n v) := by
  induction n with
  | zero => exact .nil
  | succ n ih => exact .cons _ _ _ _ h ih

theorem RelL.singleton {x : AV} {v : Value} (h : RelV σ A M x v) : RelL σ A M [x] [v] := .cons _ _ _ _ h .nil

theorem RelV.cells {x : AV} {v : Value} (h : RelV σ A M x v) (ha : x ≠ .any) : RelL σ A M x.cells v.cells.toList := by
  cases h
  case any => exact absurd rfl ha
  case agg h => exact h
  case tok i hv h1 h2 => rw [h2]; exact RelL.singleton (.tok _ _ hv h1 h2)
  all_goals (refine RelL.singleton ?_; constructor <;> assumption)

theorem RelV.oneCell {x : AV} {v : Value} (h : RelV σ A M x v) (h1 : x.one = true) : v.oneCell' = true := by
  cases h <;> first | rfl | assumption | (simp [AV.one] at h1)

theorem RelV.undef : RelV σ A M .undef Go.undef := .tup _ _ .nil
end

/-! Another place of the blocks, and more of them. -/
mutual
theorem RelV.move {σ σ' : Nat → Loc} {A A' : Nat → Prop} {M : Mem} (hs : ∀ b, A b → A' b ∧ σ' b = σ b) : ∀ {x : AV} {v : Value}, RelV σ A M x v → RelV σ' A' M x v
  | _, _, .any v => .any v
  | _, _, .b x => .b x
  | _, _, .i k n => .i k n
  | _, _, .f k n => .f k n
  | _, _, .s l t h => .s l t h
  | _, _, .nilp => .nilp
  | _, _, .nils => .nils
  | _, _, .nilm => .nilm
  | _, _, .nilf => .nilf
  | _, _, .nili => .nili
  | _, _, .p b o h a ha => .p b o (hs b h).1 a (by rw [(hs b h).2]; exact ha)
  | _, _, .sl b o n c z cap a h hn hc ha hz => .sl b o n c z cap a (hs b h).1 hn hc (by rw [(hs b h).2]; exact ha) (by rw [(hs b h).2]; exact hz)
  | _, _, .m b h r hr => .m b (hs b h).1 r (by rw [(hs b h).2]; exact hr)
  | _, _, .fn g fs cs first cap h1 h2 => .fn g fs cs first cap (RelL.move hs h1) (RelL.move hs h2)
  | _, _, .ifc t x v h => .ifc t x v (RelV.move hs h)
  | _, _, .agg cs vs h => .agg cs vs (RelL.move hs h)
  | _, _, .tup cs vs h => .tup cs vs (RelL.move hs h)
  | _, _, .ro cs n z cap a vs hl hn h hv => .ro cs n z cap a vs hl hn (RelL.move hs h) hv
  | _, _, .ro0 z => .ro0 z
  | _, _, .rp cs a vs h hv => .rp cs a vs (RelL.move hs h) hv
  | _, _, .yl b h r hr => .yl b (hs b h).1 r (by rw [(hs b h).2]; exact hr)
  | _, _, .tok i v h1 h2 h3 => .tok i v h1 h2 h3
theorem RelL.move {σ σ' : Nat → Loc} {A A' : Nat → Prop} {M : Mem} (hs : ∀ b, A b → A' b ∧ σ' b = σ b) : ∀ {x : List AV} {v : List Value}, RelL σ A M x v → RelL σ' A' M x v
  | _, _, .nil => .nil
  | _, _, .cons x v xs vs h t => .cons x v xs vs (RelV.move hs h) (RelL.move hs t)
end

/-! ### 2. The abstract heap -/
/-- The record of a loop over a function: 0 ready, 1 busy, 2 done; the jump that waits; the frame at its start; where a value goes; the code; how many temporaries. -/
structure LoopA where
  st : Nat
  pend : Option Code
  fr : T AV
  ps : List Nat
  asg : Code
  body : Code
  n : Nat

inductive ABlk where
  | dead
  | cells (cs : List AV)
  | map (es : List (AV × AV)) (bs : List Nat) (ck : Nat)
  | loop (k : LoopA)
  /-- Someone goes over a map: which one; its clock then; who was told; its clock at the last step. -/
  | iter (m : Option Nat) (since : Nat) (seen : List Nat) (last : Nat)
  deriving Inhabited
def ABlk.live : ABlk → Bool
  | .dead => false
  | _ => true

structure H where
  t : T ABlk
  next : Nat
  wb : Nat
  /-- New numbers go by steps of this width. -/
  st : Nat
  deriving Inhabited

def H.get (h : H) (b : Nat) : Option ABlk := h.t.get b
/-- A block that is there is written over (or let go). -/
def H.write (h : H) (b : Nat) (x : ABlk) : Option H := cond (Nat.ble h.wb b) (some ⟨h.t.put b (some x), h.next, h.wb, h.st⟩) none
/-- A new block: its number is 'h.next'. -/
def H.push (h : H) (x : ABlk) : H := ⟨h.t.put h.next (some x), Nat.add h.next h.st, h.wb, h.st⟩
def H.empty : H := ⟨.e, 0, 0, 1⟩

theorem H.get_push (h : H) (x : ABlk) (j : Nat) : (h.push x).get j = if j = h.next then some x else h.get j := T.get_put _ _ _ j
theorem H.get_write {h h' : H} {b : Nat} {x : ABlk} (e : h.write b x = some h') (j : Nat) : h'.get j = if j = b then some x else h.get j := by
  unfold H.write at e
  rw [cond_ble] at e
  split at e
  · cases e; exact T.get_put _ _ _ j
  · cases e
theorem H.write_next {h h' : H} {b : Nat} {x : ABlk} (e : h.write b x = some h') : h'.next = h.next ∧ h'.wb = h.wb ∧ h.wb ≤ b := by
  unfold H.write at e
  rw [cond_ble] at e
  split at e
  · cases e; exact ⟨rfl, rfl, by assumption⟩
  · cases e
theorem H.write_st {h h' : H} {b : Nat} {x : ABlk} (e : h.write b x = some h') : h'.st = h.st := by
  unfold H.write at e
  rw [cond_ble] at e
  split at e
  · cases e; rfl
  · cases e


/-! ### 3. The heap of a world -/
section
variable (σ : Nat → Loc) (A : Nat → Prop) (M : Mem)

/-- The cells 'cs' from place 'off' on. -/
def RelP (cs : List AV) (c : Array Value) (off : Nat) : Prop := ∀ (j : Nat) (x : AV), cs[j]? = some x → ∃ v, c[off + j]? = some v ∧ RelV σ A M x v

/-- What is told of the rest of a map's entries. -/
inductive RelE : List (AV × AV) → List MapEntry → Prop
  | nil : RelE [] []
  | cons (k x : AV) (e : MapEntry) (xs : List (AV × AV)) (es : List MapEntry) (hk : RelV σ A M k e.key) (hx : RelV σ A M x e.val) (t : RelE xs es) : RelE ((k, x) :: xs) (e :: es)

def stOf (n : Nat) : LoopState := match n with | 0 => .ready | 1 => .busy | 2 => .done | _ => .exhausted
/-- What is told of a loop's record. -/
structure RelK (k : LoopA) (L : Loop) : Prop where
  st : L.state = stOf k.st
  pend : L.pending = k.pend
  ps : L.params.toList = k.ps
  asg : L.assign = k.asg
  body : L.body = k.body
  n : L.tmps.size = k.n
  tmps : ∀ t v, L.tmps[t]? = some v → RelV σ A M ((k.fr.get t).getD AV.undef) v
  out : ∀ t, L.tmps.size ≤ t → k.fr.get t = none

def RelB (w : World) (b : Nat) : ABlk → Prop
  | .dead => True
  | .cells cs => ∃ c e fr, w.heap[(σ b).blk]? = some (.cells c e fr) ∧ c.size = (σ b).sz ∧ (∀ j, j < c.size → (decide (fr.1 ≤ j) && decide (j < fr.2)) = false) ∧ RelP σ A M cs c (σ b).off
  | .map es bs ck => ∃ entries, w.heap[(σ b).blk]? = some (.map entries ck) ∧ RelE σ A M es entries.toList ∧ entries.toList.map (·.born) = bs
  | .loop k => ∃ L, w.heap[(σ b).blk]? = some (.loop L) ∧ RelK σ A M k L
  | .iter m since seen last => w.heap[(σ b).blk]? = some (.mapIter (m.map fun c => (σ c).blk) since seen.toArray last) ∧ (σ b).off = 0 ∧ ∀ c, m = some c → A c

/-- What the abstract heap says of a world. -/
structure RelH (w : World) (h : H) : Prop where
  bound : ∀ b, A b → b < h.next ∨ b % h.st ≠ h.next % h.st
  dom : ∀ b x, h.get b = some x → A b
  blk : ∀ b x, h.get b = some x → RelB σ A M w b x
  inj : ∀ b x b' x', h.get b = some x → h.get b' = some x' → x.live = true → x'.live = true → b ≠ b' → (σ b).blk ≠ (σ b').blk
  stay : ∀ a v, M a = some v → w.cell? a = some v ∧ ∀ b x, h.get b = some x → x.live = true → (σ b).blk ≠ a.block
  wb : h.wb ≤ h.next
  pos : 0 < h.st
end

/-- Block k of the world is one of the abstract heap's. -/
def Own (σ : Nat → Loc) (h : H) (k : Nat) : Prop := ∃ b x, h.get b = some x ∧ x.live = true ∧ (σ b).blk = k

/-- What a piece of a run does. -/
structure Step (σ : Nat → Loc) (A : Nat → Prop) (w : World) (h : H) (σ' : Nat → Loc) (A' : Nat → Prop) (w' : World) (h' : H) : Prop where
  agree : ∀ b, A b → A' b ∧ σ' b = σ b
  fresh : ∀ b, A' b → A b ∨ (h.next ≤ b ∧ b < h'.next ∧ b % h.st = h.next % h.st)
  os : w'.os = w.os
  tape : w'.tape = w.tape
  output : w'.output = w.output
  size : w.heap.size ≤ w'.heap.size
  keep : ∀ k, k < w.heap.size → ¬ Own σ h k → w'.heap[k]? = w.heap[k]?
  own : ∀ k, Own σ' h' k → Own σ h k ∨ w.heap.size ≤ k
  next : h.next ≤ h'.next
  wb : h'.wb = h.wb
  low : ∀ b, b < h.wb → h'.get b = h.get b
  st : h'.st = h.st
  mod : h'.next % h.st = h.next % h.st
  only : ∀ b, h.get b = none → h'.get b = none ∨ (h.next ≤ b ∧ b % h.st = h.next % h.st)

section
variable {σ σ' σ'' : Nat → Loc} {A A' A'' : Nat → Prop} {M : Mem} {w w' w'' : World} {h h' h'' : H}

theorem Step.refl (σ : Nat → Loc) (A : Nat → Prop) (w : World) (h : H) : Step σ A w h σ A w h :=
  ⟨fun _ a => ⟨a, rfl⟩, fun _ a => .inl a, rfl, rfl, rfl, Nat.le_refl _, fun _ _ _ => rfl, fun _ o => .inl o, Nat.le_refl _, rfl, fun _ _ => rfl, rfl, rfl, fun _ e => .inl e⟩

theorem Step.trans (s : Step σ A w h σ' A' w' h') (t : Step σ' A' w' h' σ'' A'' w'' h'') : Step σ A w h σ'' A'' w'' h'' where
  agree b a := ⟨(t.agree b (s.agree b a).1).1, (t.agree b (s.agree b a).1).2.trans (s.agree b a).2⟩
  fresh b a := by
    rcases t.fresh b a with h1 | ⟨h1, h2, h3⟩
    · rcases s.fresh b h1 with h1 | ⟨h1, h2, h3⟩
      · exact .inl h1
      · exact .inr ⟨h1, Nat.lt_of_lt_of_le h2 t.next, h3⟩
    · rw [s.st, s.mod] at h3
      exact .inr ⟨Nat.le_trans s.next h1, h2, h3⟩
  os := t.os.trans s.os
  tape := t.tape.trans s.tape
  output := t.output.trans s.output
  size := Nat.le_trans s.size t.size
  keep k hk ho := by
    rw [t.keep k (Nat.lt_of_lt_of_le hk s.size) (fun o => ?_), s.keep k hk ho]
    rcases s.own k o with h1 | h1
    · exact ho h1
    · omega
  own k o := by
    rcases t.own k o with h1 | h1
    · exact s.own k h1
    · exact .inr (Nat.le_trans s.size h1)
  next := Nat.le_trans s.next t.next
  wb := t.wb.trans s.wb
  low b hb := (t.low b (by rw [s.wb]; exact hb)).trans (s.low b hb)
  st := t.st.trans s.st
  mod := by have h1 := t.mod; rw [s.st] at h1; exact h1.trans s.mod
  only b hb := by
    rcases s.only b hb with h1 | h1
    · rcases t.only b h1 with h2 | ⟨h2, h3⟩
      · exact .inl h2
      · rw [s.st, s.mod] at h3
        exact .inr ⟨Nat.le_trans s.next h2, h3⟩
    · exact .inr h1

theorem Step.relV (s : Step σ A w h σ' A' w' h') {x : AV} {v : Value} (r : RelV σ A M x v) : RelV σ' A' M x v := r.move s.agree
theorem Step.relL (s : Step σ A w h σ' A' w' h') {x : List AV} {v : List Value} (r : RelL σ A M x v) : RelL σ' A' M x v := r.move s.agree

/-- A draw. -/
theorem Step.drew (σ : Nat → Loc) (A : Nat → Prop) (w : World) (h : H) : Step σ A w h σ A w.drew h :=
  ⟨fun _ a => ⟨a, rfl⟩, fun _ a => .inl a, rfl, rfl, rfl, Nat.le_refl _, fun _ _ _ => rfl, fun _ o => .inl o, Nat.le_refl _, rfl, fun _ _ => rfl, rfl, rfl, fun _ e => .inl e⟩
theorem RelB.drew {b : Nat} {x : ABlk} (r : RelB σ A M w b x) : RelB σ A M w.drew b x := by cases x <;> exact r
theorem RelH.drew (r : RelH σ A M w h) : RelH σ A M w.drew h := ⟨r.bound, r.dom, fun b x e => (r.blk b x e).drew, r.inj, r.stay, r.wb, r.pos⟩

theorem RelP.move (hs : ∀ b, A b → A' b ∧ σ' b = σ b) {cs : List AV} {c : Array Value} {off : Nat} (r : RelP σ A M cs c off) : RelP σ' A' M cs c off := fun j x e =>
  let ⟨v, hv, hr⟩ := r j x e
  ⟨v, hv, hr.move hs⟩
theorem RelE.move (hs : ∀ b, A b → A' b ∧ σ' b = σ b) {xs : List (AV × AV)} {es : List MapEntry} (r : RelE σ A M xs es) : RelE σ' A' M xs es := by
  induction r with
  | nil => exact .nil
  | cons k x e xs es hk hx t ih => exact .cons _ _ _ _ _ (hk.move hs) (hx.move hs) ih

/-- A block says the same in a world in which its block is as it was. -/
theorem RelB.move {b : Nat} {x : ABlk} (hs : ∀ b, A b → A' b ∧ σ' b = σ b) (hb : A b) (hk : x.live = true → w'.heap[(σ b).blk]? = w.heap[(σ b).blk]?) (r : RelB σ A M w b x) : RelB σ' A' M w' b x := by
  cases x with
  | dead => trivial
  | cells cs =>
    obtain ⟨c, e, fr, h1, h2, h3, h4⟩ := r
    refine ⟨c, e, fr, ?_, ?_, h3, ?_⟩
    · rw [(hs b hb).2, hk rfl]; exact h1
    · rw [(hs b hb).2]; exact h2
    · rw [(hs b hb).2]; exact h4.move hs
  | map es bs ck =>
    obtain ⟨en, h1, h2, h3⟩ := r
    refine ⟨en, ?_, h2.move hs, h3⟩
    rw [(hs b hb).2, hk rfl]; exact h1
  | iter m since seen last =>
    obtain ⟨h1, h2, h3⟩ := r
    refine ⟨?_, by rw [(hs b hb).2]; exact h2, fun c e => (hs c (h3 c e)).1⟩
    rw [(hs b hb).2, hk rfl, h1]
    cases m with
    | none => rfl
    | some c => simp only [Option.map_some]; rw [(hs c (h3 c rfl)).2]
  | loop k =>
    obtain ⟨L, h1, h2⟩ := r
    refine ⟨L, ?_, ⟨h2.st, h2.pend, h2.ps, h2.asg, h2.body, h2.n, fun t v e => (h2.tmps t v e).move hs, h2.out⟩⟩
    rw [(hs b hb).2, hk rfl]; exact h1

theorem RelB.lt {b : Nat} {x : ABlk} (r : RelB σ A M w b x) (hx : x.live = true) : (σ b).blk < w.heap.size := by
  cases x with
  | dead => simp [ABlk.live] at hx
  | cells cs => obtain ⟨c, e, fr, h1, _⟩ := r; exact (Array.getElem?_eq_some_iff.1 h1).1
  | map es bs ck => obtain ⟨en, h1, _⟩ := r; exact (Array.getElem?_eq_some_iff.1 h1).1
  | iter m since seen last => exact (Array.getElem?_eq_some_iff.1 r.1).1
  | loop k => obtain ⟨L, h1, _⟩ := r; exact (Array.getElem?_eq_some_iff.1 h1).1

theorem Own.lt {k : Nat} (o : Own σ h k) (r : RelH σ A M w h) : k < w.heap.size := by
  obtain ⟨b, x, e, l, rfl⟩ := o
  exact (r.blk b x e).lt l

/-- A cell of memory that stays is there behind a step, too. -/
theorem stay_of {a : Addr} {v : Value} (r : RelH σ A M w h) (hM : M a = some v) (hk : ∀ k, k < w.heap.size → ¬ Own σ h k → w'.heap[k]? = w.heap[k]?) : w'.cell? a = some v := by
  obtain ⟨h1, h2⟩ := r.stay a v hM
  have hlt := World.block_lt_of_cell? w a h1
  rw [World.cell?_of_block (w := w) (hk a.block hlt ?_)]
  · exact h1
  · rintro ⟨b, x, e, l, hb⟩
    exact h2 b x e l hb

/-! #### A new block -/
def upd (σ : Nat → Loc) (n : Nat) (l : Loc) : Nat → Loc := fun b => if b = n then l else σ b
theorem upd_same (σ : Nat → Loc) (n : Nat) (l : Loc) : upd σ n l n = l := by simp [upd]
theorem upd_ne (σ : Nat → Loc) {n b : Nat} (l : Loc) (h : b ≠ n) : upd σ n l b = σ b := by simp [upd, h]
theorem upd_agree (r : RelH σ A M w h) (l : Loc) : ∀ b, A b → (A b ∨ b = h.next) ∧ upd σ h.next l b = σ b := fun b a =>
  ⟨.inl a, upd_ne σ l (by rcases r.bound b a with h1 | h1; omega; exact fun e => h1 (by rw [e]))⟩

theorem push_ok (r : RelH σ A M w h) (o : Obj) (x : ABlk) (l : Loc) (hl : x.live = true → l.blk = w.heap.size)
    (hx : RelB (upd σ h.next l) (fun b => A b ∨ b = h.next) M (w.alloc o) h.next x) :
    Step σ A w h (upd σ h.next l) (fun b => A b ∨ b = h.next) (w.alloc o) (h.push x) ∧ RelH (upd σ h.next l) (fun b => A b ∨ b = h.next) M (w.alloc o) (h.push x) := by
  have hag := upd_agree r l
  have hold : ∀ b y, (h.push x).get b = some y → b ≠ h.next → h.get b = some y := fun b y e hb => by rw [H.get_push, if_neg hb] at e; exact e
  refine ⟨⟨hag, fun b a => ?_, rfl, rfl, rfl, by simp, fun k hk _ => heap_alloc_old w o k hk, fun k ho => ?_, Nat.le_add_right _ _, rfl, fun b hb => ?_, rfl, Nat.add_mod_right _ _, fun b hb => by
    rw [H.get_push]
    by_cases e : b = h.next
    · exact .inr ⟨by omega, by rw [e]⟩
    · rw [if_neg e]; exact .inl hb⟩, ⟨fun b a => ?_, fun b y e => ?_, fun b y e => ?_, fun b y b' y' e e' l1 l2 hne => ?_, fun a v hM => ?_, ?_, r.pos⟩⟩
  · rcases a with a | a
    · exact .inl a
    · have := r.pos
      exact .inr ⟨by omega, show b < h.next + h.st by omega, by rw [a]⟩
  · obtain ⟨b, y, e, ly, rfl⟩ := ho
    by_cases hb : b = h.next
    · subst hb
      rw [H.get_push, if_pos rfl] at e
      cases e
      rw [upd_same, hl ly]
      exact .inr (Nat.le_refl _)
    · have e := hold b y e hb
      rw [upd_ne σ l hb]
      exact .inl ⟨b, y, e, ly, rfl⟩
  · have := r.wb
    rw [H.get_push, if_neg (by omega)]
  · show b < h.next + h.st ∨ b % h.st ≠ (h.next + h.st) % h.st
    have := r.pos
    rw [Nat.add_mod_right]
    rcases a with a | a
    · rcases r.bound b a with h1 | h1
      · exact .inl (by omega)
      · exact .inr h1
    · exact .inl (by omega)
  · by_cases hb : b = h.next
    · exact .inr hb
    · exact .inl (r.dom b y (hold b y e hb))
  · by_cases hb : b = h.next
    · subst hb
      rw [H.get_push, if_pos rfl] at e
      cases e
      exact hx
    · have e := hold b y e hb
      refine RelB.move hag (r.dom b y e) (fun ly => ?_) (r.blk b y e)
      exact heap_alloc_old w o _ ((r.blk b y e).lt ly)
  · by_cases hb : b = h.next
    · subst hb
      have hb' : b' ≠ h.next := fun e => hne e.symm
      rw [H.get_push, if_pos rfl] at e
      cases e
      have e' := hold b' y' e' hb'
      rw [upd_same, upd_ne σ l hb', hl l1]
      have := (r.blk b' y' e').lt l2
      omega
    · have e := hold b y e hb
      by_cases hb' : b' = h.next
      · subst hb'
        rw [H.get_push, if_pos rfl] at e'
        cases e'
        rw [upd_same, upd_ne σ l hb, hl l2]
        have := (r.blk b y e).lt l1
        omega
      · have e' := hold b' y' e' hb'
        rw [upd_ne σ l hb, upd_ne σ l hb']
        exact r.inj b y b' y' e e' l1 l2 hne
  · refine ⟨stay_of r hM (fun k hk _ => heap_alloc_old w o k hk), fun b y e ly => ?_⟩
    have hlt := World.block_lt_of_cell? w a (r.stay a v hM).1
    by_cases hb : b = h.next
    · subst hb
      rw [H.get_push, if_pos rfl] at e
      cases e
      rw [upd_same, hl ly]
      omega
    · rw [upd_ne σ l hb]
      exact (r.stay a v hM).2 b y (hold b y e hb) ly
  · have := r.wb
    show h.wb ≤ h.next + h.st
    omega

/-- A new block of cells. -/
theorem push_cells (r : RelH σ A M w h) (cs : List AV) (c : Array Value) (e : TypeId) (hc : RelL σ A M cs c.toList) :
    Step σ A w h (upd σ h.next ⟨w.heap.size, 0, c.size⟩) (fun b => A b ∨ b = h.next) (w.alloc (.cells c e)) (h.push (.cells cs)) ∧ RelH (upd σ h.next ⟨w.heap.size, 0, c.size⟩) (fun b => A b ∨ b = h.next) M (w.alloc (.cells c e)) (h.push (.cells cs)) := by
  refine push_ok r _ _ _ (fun _ => rfl) ⟨c, e, (0, 0), ?_, ?_, fun j hj => by simp, ?_⟩
  · rw [upd_same]; exact heap_alloc_new w _
  · rw [upd_same]
  · rw [upd_same]
    intro j x hx
    obtain ⟨v, hv, hr⟩ := hc.get hx
    exact ⟨v, by simpa using hv, hr.move (upd_agree r _)⟩

/-! #### A block that is written over -/
/-- The world's block of b becomes 'o'; the abstract one 'x'. -/
def World.setBlk (w : World) (k : Nat) (o : Obj) : World := { w with heap := w.heap.setIfInBounds k o }
theorem setBlk_same (w : World) (k : Nat) (o : Obj) (h : k < w.heap.size) : (World.setBlk w k o).heap[k]? = some o := by
  simp [World.setBlk, h]
theorem setBlk_ne (w : World) (k j : Nat) (o : Obj) (h : j ≠ k) : (World.setBlk w k o).heap[j]? = w.heap[j]? := by
  simp only [World.setBlk]
  exact Array.getElem?_setIfInBounds_ne (fun e => h e.symm)

theorem write_ok (r : RelH σ A M w h) {b : Nat} {x : ABlk} (hx : h.get b = some x) (lx : x.live = true) {y : ABlk} {h' : H} (hw : h.write b y = some h') {w' : World}
    (hos : w'.os = w.os) (ht : w'.tape = w.tape) (ho : w'.output = w.output) (hsz : w'.heap.size = w.heap.size) (hk : ∀ k, k ≠ (σ b).blk → w'.heap[k]? = w.heap[k]?) (hy : RelB σ A M w' b y) :
    Step σ A w h σ A w' h' ∧ RelH σ A M w' h' := by
  have hn := H.write_next hw
  have hself : ∀ b, A b → A b ∧ σ b = σ b := fun _ a => ⟨a, rfl⟩
  have hold : ∀ c z, h'.get c = some z → c ≠ b → h.get c = some z := fun c z e hc => by rw [H.get_write hw, if_neg hc] at e; exact e
  have hnew : ∀ z, h'.get b = some z → z = y := fun z e => by rw [H.get_write hw, if_pos rfl] at e; cases e; rfl
  have hb : Own σ h (σ b).blk := ⟨b, x, hx, lx, rfl⟩
  refine ⟨⟨hself, fun _ a => .inl a, hos, ht, ho, by omega, fun k _ hno => hk k (fun e => hno (e ▸ hb)), fun k o => ?_, by omega, hn.2.1, fun c hc => ?_, H.write_st hw, by rw [hn.1], fun c hc => by
    rw [H.get_write hw]
    by_cases e : c = b
    · rw [e, hx] at hc; cases hc
    · rw [if_neg e]; exact .inl hc⟩, ⟨fun c a => ?_, fun c z e => ?_, fun c z e => ?_, fun c z c' z' e e' l1 l2 hne => ?_, fun a v hM => ?_, ?_, by rw [H.write_st hw]; exact r.pos⟩⟩
  · obtain ⟨c, z, e, lz, rfl⟩ := o
    by_cases hc : c = b
    · subst hc; exact .inl hb
    · exact .inl ⟨c, z, hold c z e hc, lz, rfl⟩
  · rw [H.get_write hw, if_neg (by omega)]
  · rw [hn.1, H.write_st hw]; exact r.bound c a
  · by_cases hc : c = b
    · subst hc; exact r.dom _ x hx
    · exact r.dom c z (hold c z e hc)
  · by_cases hc : c = b
    · subst hc; rw [hnew z e]; exact hy
    · refine RelB.move hself (r.dom c z (hold c z e hc)) (fun lz => hk _ ?_) (r.blk c z (hold c z e hc))
      exact r.inj c z b x (hold c z e hc) hx lz lx hc
  · by_cases hc : c = b
    · subst hc
      exact r.inj c x c' z' hx (hold c' z' e' (fun e => hne e.symm)) lx l2 hne
    · by_cases hc' : c' = b
      · subst hc'
        exact r.inj c z c' x (hold c z e hc) hx l1 lx hne
      · exact r.inj c z c' z' (hold c z e hc) (hold c' z' e' hc') l1 l2 hne
  · refine ⟨stay_of r hM (fun k _ hno => hk k (fun e => hno (e ▸ hb))), fun c z e lz => ?_⟩
    by_cases hc : c = b
    · subst hc; exact (r.stay a v hM).2 c x hx lx
    · exact (r.stay a v hM).2 c z (hold c z e hc) lz
  · rw [hn.1, hn.2.1]; exact r.wb
end

end
end Go.Proofs.YtfaemheimmndgaaGreatDoor.XI
