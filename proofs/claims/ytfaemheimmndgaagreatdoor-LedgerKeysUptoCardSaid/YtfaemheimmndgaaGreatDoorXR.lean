/- Lists and trees as the kernel reckons them quickly. Part of a verified reckoner of runs: no condition. -/
set_option linter.unusedVariables false
set_option linter.unusedSimpArgs false
namespace Go.Proofs.YtfaemheimmndgaaGreatDoor.XI
noncomputable section
variable {α β : Type}

/-! Each round is a definition of its own: so the kernel goes on, and doesn't go deeper. -/
def ntS (x : α) (ih : Nat → Option α) (n : Nat) : Option α := Nat.rec (motive := fun _ => Option α) (some x) (fun m _ => ih m) n
def nt (l : List α) : Nat → Option α := List.rec (motive := fun _ => Nat → Option α) (fun _ => none) (fun x _ ih => ntS x ih) l
theorem nt_eq (l : List α) (n : Nat) : nt l n = l[n]? := by
  induction l generalizing n with
  | nil => rfl
  | cons x xs ih => cases n with
    | zero => rfl
    | succ n => show nt xs n = _; rw [ih n]; rfl

def tk (n : Nat) (l : List α) : List α := List.rec (motive := fun _ => Nat → List α) (fun _ => []) (fun x _ ih n => Nat.rec (motive := fun _ => List α) [] (fun m _ => x :: ih m) n) l n
theorem tk_eq (l : List α) (n : Nat) : tk n l = l.take n := by
  unfold tk
  induction l generalizing n with
  | nil => simp
  | cons x xs ih => cases n with
    | zero => rfl
    | succ n => simpa using ih n

def dpS (x : α) (xs : List α) (ih : Nat → List α) (n : Nat) : List α := Nat.rec (motive := fun _ => List α) (x :: xs) (fun m _ => ih m) n
def dp (n : Nat) (l : List α) : List α := List.rec (motive := fun _ => Nat → List α) (fun _ => []) (fun x xs ih => dpS x xs ih) l n
theorem dp_eq (n : Nat) (l : List α) : dp n l = l.drop n := by
  unfold dp
  induction l generalizing n with
  | nil => simp
  | cons x xs ih => cases n with
    | zero => rfl
    | succ n =>
      have h := ih n
      rw [List.drop_succ_cons, ← h]
      rfl

def ap (l k : List α) : List α := List.rec (motive := fun _ => List α) k (fun x _ ih => x :: ih) l
theorem ap_eq (l k : List α) : ap l k = l ++ k := by
  unfold ap
  induction l with
  | nil => rfl
  | cons x xs ih => simpa using ih

def lnS (ih : Nat → Nat) (n : Nat) : Nat := Nat.rec (motive := fun _ => Nat) (ih 1) (fun m _ => ih (Nat.succ (Nat.succ m))) n
def ln (l : List α) : Nat := List.rec (motive := fun _ => Nat → Nat) (fun n => n) (fun _ _ ih => lnS ih) l 0
theorem lnS_eq (ih : Nat → Nat) (n : Nat) : lnS ih n = ih (n + 1) := by cases n <;> rfl
theorem ln_add (l : List α) : ∀ n, List.rec (motive := fun _ => Nat → Nat) (fun n => n) (fun _ _ ih => lnS ih) l n = n + l.length := by
  induction l with
  | nil => intro n; rfl
  | cons x xs ih =>
    intro n
    show lnS (List.rec (motive := fun _ => Nat → Nat) (fun n => n) (fun _ _ ih => lnS ih) xs) n = _
    rw [lnS_eq, ih, List.length_cons]
    omega
theorem ln_eq (l : List α) : ln l = l.length := by
  unfold ln
  rw [ln_add]
  omega

def mp (f : α → β) (l : List α) : List β := List.rec (motive := fun _ => List β) [] (fun x _ ih => f x :: ih) l
theorem mp_eq (f : α → β) (l : List α) : mp f l = l.map f := by
  unfold mp
  induction l with
  | nil => rfl
  | cons x xs ih => simpa using ih

def alS (b ih : Bool) : Bool := Bool.rec (motive := fun _ => Bool) false ih b
def al (f : α → Bool) (l : List α) : Bool := List.rec (motive := fun _ => Bool) true (fun x _ ih => alS (f x) ih) l
theorem al_eq (f : α → Bool) (l : List α) : al f l = l.all f := by
  unfold al
  induction l with
  | nil => rfl
  | cons x xs ih => simp only [List.all_cons]; rw [← ih]; cases f x <;> rfl

def st (l : List α) (n : Nat) (v : α) : List α := List.rec (motive := fun _ => Nat → List α) (fun _ => []) (fun x xs ih n => Nat.rec (motive := fun _ => List α) (v :: xs) (fun m _ => x :: ih m) n) l n
theorem st_eq (l : List α) (n : Nat) (v : α) : st l n v = l.set n v := by
  unfold st
  induction l generalizing n with
  | nil => simp
  | cons x xs ih => cases n with
    | zero => rfl
    | succ n => simpa using ih n

def rpl (n : Nat) (v : α) : List α := Nat.rec (motive := fun _ => List α) [] (fun _ ih => v :: ih) n
theorem rpl_eq (n : Nat) (v : α) : rpl n v = List.replicate n v := by
  unfold rpl
  induction n with
  | zero => rfl
  | succ n ih => simpa [List.replicate_succ] using ih

def eqNS (x : Nat) (ih : List Nat → Bool) (k : List Nat) : Bool := List.rec (motive := fun _ => Bool) false (fun y ys _ => Bool.rec (motive := fun _ => Bool) false (ih ys) (Nat.beq x y)) k
/-- Equal lists of numbers. -/
def eqN (l : List Nat) : List Nat → Bool := List.rec (motive := fun _ => List Nat → Bool) (fun k => List.rec (motive := fun _ => Bool) true (fun _ _ _ => false) k)
  (fun x _ ih => eqNS x ih) l
theorem eqN_eq (l k : List Nat) : eqN l k = (l == k) := by
  induction l generalizing k with
  | nil => cases k <;> rfl
  | cons x xs ih => cases k with
    | nil => rfl
    | cons y ys =>
      show Bool.rec (motive := fun _ => Bool) false (eqN xs ys) (Nat.beq x y) = _
      rw [ih ys]
      by_cases e : x = y
      · subst e; simp [Nat.beq_refl]
      · have : Nat.beq x y = false := by rw [← Bool.not_eq_true]; intro h; exact e (Nat.eq_of_beq_eq_true h)
        rw [this]
        simp [e]

/-! Trees that are gone through by paths. -/
inductive T (α : Type) where
  | e
  | n (l : T α) (v : Option α) (r : T α)
  deriving Inhabited

def T.getP (p : List Bool) : T α → Option α := List.rec (motive := fun _ => T α → Option α) (fun t => T.rec (motive := fun _ => Option α) none (fun _ v _ _ _ => v) t)
  (fun b _ ih t => T.rec (motive := fun _ => Option α) none (fun l _ r _ _ => Bool.rec (motive := fun _ => Option α) (ih l) (ih r) b) t) p
def T.putP (p : List Bool) : T α → Option α → T α := List.rec (motive := fun _ => T α → Option α → T α) (fun t x => T.rec (motive := fun _ => T α) (.n .e x .e) (fun l _ r _ _ => .n l x r) t)
  (fun b _ ih t x => T.rec (motive := fun _ => T α) (Bool.rec (motive := fun _ => T α) (.n (ih .e x) none .e) (.n .e none (ih .e x)) b) (fun l v r _ _ => Bool.rec (motive := fun _ => T α) (.n (ih l x) v r) (.n l v (ih r x)) b) t) p

theorem T.getP_e (p : List Bool) : T.getP p (.e : T α) = none := by cases p <;> rfl
theorem T.getP_putP (p : List Bool) : ∀ (q : List Bool) (t : T α) (x : Option α), T.getP q (T.putP p t x) = if q = p then x else T.getP q t := by
  induction p with
  | nil =>
    intro q t x
    cases q with
    | nil => cases t <;> rfl
    | cons b q =>
      cases t with
      | e => cases b <;> exact T.getP_e q
      | n l v r => rfl
  | cons b p ih =>
    intro q t x
    cases q with
    | nil => cases t <;> cases b <;> rfl
    | cons c q =>
      cases t with
      | e =>
        cases b <;> cases c
        · show T.getP q (T.putP p .e x) = _
          rw [ih q .e x]
          simp [T.getP_e]
        · show T.getP q .e = _
          simp [T.getP_e]
        · show T.getP q .e = _
          simp [T.getP_e]
        · show T.getP q (T.putP p .e x) = _
          rw [ih q .e x]
          simp [T.getP_e]
      | n l v r =>
        cases b <;> cases c
        · show T.getP q (T.putP p l x) = _
          rw [ih q l x]
          simp
          rfl
        · show T.getP q r = _
          simp
          rfl
        · show T.getP q l = _
          simp
          rfl
        · show T.getP q (T.putP p r x) = _
          rw [ih q r x]
          simp
          rfl

/-- The path of a number: fuel, number. -/
def pathF (k : Nat) : Nat → List Bool := Nat.rec (motive := fun _ => Nat → List Bool) (fun _ => []) (fun _ ih i => Bool.rec (motive := fun _ => List Bool) (Bool.rec (motive := fun _ => List Bool) (true :: ih (Nat.pred (Nat.div i 2))) (false :: ih (Nat.div i 2)) (Nat.beq (Nat.mod i 2) 1)) [] (Nat.beq i 0)) k
def path (i : Nat) : List Bool := pathF i i
/-- The number of a path. -/
def unpath : List Bool → Nat
  | [] => 0
  | false :: p => 2 * unpath p + 1
  | true :: p => 2 * unpath p + 2
theorem unpath_pathF : ∀ (k i : Nat), i ≤ k → unpath (pathF k i) = i := by
  intro k
  induction k with
  | zero => intro i h; have : i = 0 := by omega
            subst this; rfl
  | succ k ih =>
    intro i h
    show unpath (Bool.rec (motive := fun _ => List Bool) (Bool.rec (motive := fun _ => List Bool) (true :: pathF k (Nat.pred (Nat.div i 2))) (false :: pathF k (Nat.div i 2)) (Nat.beq (Nat.mod i 2) 1)) [] (Nat.beq i 0)) = i
    by_cases h0 : i = 0
    · subst h0; rfl
    · have e0 : Nat.beq i 0 = false := by cases i with | zero => exact absurd rfl h0 | succ n => rfl
      rw [e0]
      have hd : Nat.div i 2 = i / 2 := rfl
      have hm : Nat.mod i 2 = i % 2 := rfl
      have hp : ∀ n : Nat, Nat.pred n = n - 1 := fun _ => rfl
      by_cases h1 : i % 2 = 1
      · have e1 : Nat.beq (Nat.mod i 2) 1 = true := by rw [hm, h1]; rfl
        rw [e1]
        show 2 * unpath (pathF k (Nat.div i 2)) + 1 = i
        rw [ih _ (by rw [hd]; omega), hd]
        omega
      · have e1 : Nat.beq (Nat.mod i 2) 1 = false := by
          rw [hm]
          have : i % 2 = 0 := by omega
          rw [this]; rfl
        rw [e1]
        show 2 * unpath (pathF k (Nat.pred (Nat.div i 2))) + 2 = i
        rw [ih _ (by rw [hd, hp]; omega), hd, hp]
        omega
theorem path_inj {i j : Nat} (h : path i = path j) : i = j := by
  have h1 := unpath_pathF i i (Nat.le_refl _)
  have h2 := unpath_pathF j j (Nat.le_refl _)
  unfold path at h
  rw [← h1, h, h2]

def T.get (t : T α) (i : Nat) : Option α := T.getP (path i) t
def T.put (t : T α) (i : Nat) (x : Option α) : T α := T.putP (path i) t x
theorem T.get_put (t : T α) (i : Nat) (x : Option α) (j : Nat) : (T.put t i x).get j = if j = i then x else t.get j := by
  unfold T.get T.put
  rw [T.getP_putP]
  by_cases h : j = i
  · subst h; simp
  · rw [if_neg (fun e => h (path_inj e)), if_neg h]
theorem T.get_e (i : Nat) : (T.e : T α).get i = none := T.getP_e _
end
end Go.Proofs.YtfaemheimmndgaaGreatDoor.XI
