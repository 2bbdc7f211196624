/- Key, Ends, Plain of layer 20, and of its reference: no condition beside the length. -/
import Derived.Test.YtfaemheimmndgaaGreatDoorLW
import Derived.Test.YtfaemheimmndgaaGreatDoorLF
set_option linter.unusedVariables false
namespace Go.Proofs.YtfaemheimmndgaaGreatDoor
open Go.Proofs.YtfaemheimmndgaaGreatDoor.XI
/-- Calls that are told of, where the arguments fit. -/
noncomputable def toldF (sp : FuncId → List AV → Option AV) (fits : List AV → Prop) : CallF := fun t args h => match t with
  | .fn f => (match sp f args with
    | some z => open Classical in if fits args then some (z, h) else none
    | none => none)
  | _ => none
theorem toldF_ok {M : Mem} {sp : FuncId → List AV → Option AV} {fits : List AV → Prop} (hs : ∀ f args z h, sp f args = some z → fits args → CallS E M (.fn f) args h z h) : CallOk E M (toldF sp fits) := by
  intro t args h z h' e
  unfold toldF at e
  split at e
  · rename_i f
    split at e
    · rename_i z1 hz
      split at e
      · rename_i hf; cases e; exact hs f args _ h hz hf
      · cases e
    · cases e
  · cases e
theorem toldF_at {sp : FuncId → List AV → Option AV} {fits : List AV → Prop} {f : FuncId} {args : List AV} {z : AV} {h : H} (hs : sp f args = some z) (hf : fits args) : toldF sp fits (.fn f) args h = some (z, h) := by
  unfold toldF
  simp only [hs]
  rw [if_pos hf]
theorem q_add {a b c : List Nat} {h : H} (hl : a.length + b.length ≤ 4611686018427387904) (e : a ++ b = c) : Go.Proofs.YtfaemheimmndgaaGreatDoor.XI.valOf (keep h (sBin .add a b)) = some (.s c) := by
  refine valOf_some ?_
  unfold sBin
  simp only [ln_eq, ap_eq]
  rw [show Nat.ble (a.length + b.length) 4611686018427387904 = true by rw [Nat.ble_eq]; exact hl, e]
  rfl
theorem q_from {t : TypeId} {l r : List Nat} {j : Nat} {h : H} (ht : strTy E t = true) (hj : j ≤ l.length) (e : l.drop j = r) : Go.Proofs.YtfaemheimmndgaaGreatDoor.XI.valOf (keep h (aSlice E h t (.s l) (some (.i .i64 (.ofNat j))) none)) = some (.s r) := by
  refine valOf_some ?_
  unfold strTy at ht
  unfold aSlice
  split at ht
  case h_2 => cases ht
  rename_i i hi
  split at ht
  case h_2 => cases ht
  rename_i hd
  have h1 : decide ((0 : Int) ≤ (j : Int)) = true := by simp
  have h2 : decide ((j : Int) ≤ (l.length : Int)) = true := by simpa using hj
  simp only [hi, hd, aBound, tk_eq, dp_eq, ln_eq, iLe_eq, Int.ofNat_eq_natCast, Int.toNat_natCast, h1, h2, Bool.and_self, cond_true]
  rw [← e, List.take_of_length_le (by simp)]
theorem q_upto {t : TypeId} {l r : List Nat} {j : Nat} {h : H} (ht : strTy E t = true) (hj : j ≤ l.length) (e : l.take j = r) : Go.Proofs.YtfaemheimmndgaaGreatDoor.XI.valOf (keep h (aSlice E h t (.s l) none (some (.i .i64 (.ofNat j))))) = some (.s r) := by
  refine valOf_some ?_
  unfold strTy at ht
  unfold aSlice
  split at ht
  case h_2 => cases ht
  rename_i i hi
  split at ht
  case h_2 => cases ht
  rename_i hd
  have h1 : decide ((0 : Int) ≤ (j : Int)) = true := by simp
  have h2 : decide ((j : Int) ≤ (l.length : Int)) = true := by simpa using hj
  simp only [hi, hd, aBound, tk_eq, dp_eq, ln_eq, iLe_eq, Int.ofNat_eq_natCast, Int.toNat_natCast, h1, h2, Bool.and_self, cond_true, Nat.sub_zero, List.drop_zero]
  rw [e]
theorem q_le {a b : Nat} (h : a ≤ b) : some (AV.b (iLe (.ofNat a) (.ofNat b))) = some (AV.b true) := by rw [iLe_eq]; simp [h]
theorem strTy9 : strTy E 9 = true := by kernel_rfl

/-- Strings that are short enough. -/
def shortA : AV → Prop | .s k => k.length ≤ 1099511627776 | _ => True
def short (args : List AV) : Prop := ∀ a ∈ args, shortA a
theorem short1 {k : List Nat} : short [.s k] ↔ k.length ≤ 1099511627776 := by simp [short, shortA]
theorem short2 {k l : List Nat} : short [.s k, .s l] ↔ k.length ≤ 1099511627776 ∧ l.length ≤ 1099511627776 := by simp [short, shortA]

noncomputable def keyB : Code := bodyOf Tryz.f17
theorem key_k : codeOk 5 keyB = true := by kernel_rfl
theorem key_ok {M : Mem} (k : List Nat) (hk : k.length ≤ 1099511627776) (h : H) : CallS E M (.fn 17) [.s k] h (.s (1 :: k)) h := by
  have h1 : E.fn 17 = some Tryz.f17 := by kernel_rfl
  have h2 : Tryz.f17.body = some keyB := by kernel_rfl
  have h3 : Tryz.f17.ntmps = 5 := by kernel_rfl
  have h4 : Tryz.f17.results.toList = [.tmp 2] := by kernel_rfl
  exact callS_T E_ok mixed noCall_ok h1 h2 h3 h4 key_k rfl (ts := [(4, .v (.s (1 :: k)))]) 1 noTb_ok (tld (q := Go.Proofs.YtfaemheimmndgaaGreatDoor.XI.valOf (keep h (sBin .add [1] k)) = some (.s (1 :: k)) ∧ True) (by kernel_rfl) ⟨q_add (by simp; omega) rfl, trivial⟩) (by kernel_rfl)
noncomputable def keyR : Code := bodyOf Tryz.f18
theorem keyR_k : codeOk 5 keyR = true := by kernel_rfl
theorem keyR_ok {M : Mem} (k : List Nat) (hk : k.length ≤ 1099511627776) (h : H) : CallS E M (.fn 18) [.s k] h (.s (1 :: k)) h := by
  have h1 : E.fn 18 = some Tryz.f18 := by kernel_rfl
  have h2 : Tryz.f18.body = some keyR := by kernel_rfl
  have h3 : Tryz.f18.ntmps = 5 := by kernel_rfl
  have h4 : Tryz.f18.results.toList = [.tmp 2] := by kernel_rfl
  exact callS_T E_ok mixed noCall_ok h1 h2 h3 h4 keyR_k rfl (ts := [(4, .v (.s (1 :: k)))]) 1 noTb_ok (tld (q := Go.Proofs.YtfaemheimmndgaaGreatDoor.XI.valOf (keep h (sBin .add [1] k)) = some (.s (1 :: k)) ∧ True) (by kernel_rfl) ⟨q_add (by simp; omega) rfl, trivial⟩) (by kernel_rfl)

/-- The end of a stretch of keys. -/
noncomputable def endL (t : List Nat) : List Nat := List.rec (motive := fun _ => List Nat) [2] (fun c r _ => 1 :: c :: r) t
noncomputable def endsB : Code := bodyOf Tryz.f13
theorem ends_k : codeOk 14 endsB = true := by kernel_rfl
theorem ends_ok {M : Mem} (a b : List Nat) (ha : a.length ≤ 1099511627776) (hb : b.length ≤ 1099511627776) (h : H) : CallS E M (.fn 13) [.s a, .s b] h (.tup [.s (1 :: a), .s (endL b)]) h := by
  have h1 : E.fn 13 = some Tryz.f13 := by kernel_rfl
  have h2 : Tryz.f13.body = some endsB := by kernel_rfl
  have h3 : Tryz.f13.ntmps = 14 := by kernel_rfl
  have h4 : Tryz.f13.results.toList = [.tmp 4, .tmp 5] := by kernel_rfl
  cases b with
  | nil => exact callS_T E_ok mixed noCall_ok h1 h2 h3 h4 ends_k rfl (ts := [(9, .v (.s (1 :: a)))]) 1 noTb_ok (tld (q := Go.Proofs.YtfaemheimmndgaaGreatDoor.XI.valOf (keep h (sBin .add [1] a)) = some (.s (1 :: a)) ∧ True) (by kernel_rfl) ⟨q_add (by simp; omega) rfl, trivial⟩) (by kernel_rfl)
  | cons c b => exact callS_T E_ok mixed noCall_ok h1 h2 h3 h4 ends_k rfl (ts := [(11, .v (.s (1 :: a))), (13, .v (.s (1 :: c :: b)))]) 1 noTb_ok (tld (q := Go.Proofs.YtfaemheimmndgaaGreatDoor.XI.valOf (keep h (sBin .add [1] a)) = some (.s (1 :: a)) ∧ Go.Proofs.YtfaemheimmndgaaGreatDoor.XI.valOf (keep h (sBin .add [1] (c :: b))) = some (.s (1 :: c :: b)) ∧ True) (by kernel_rfl) ⟨q_add (by simp; omega) rfl, q_add (by simp at hb ⊢; omega) rfl, trivial⟩) (by kernel_rfl)
def keySp : FuncId → List AV → Option AV := fun f args => if f = 18 then (match args with | [.s k] => some (.s (1 :: k)) | _ => none) else none
theorem keySp_ok {M : Mem} : CallOk E M (toldF keySp short) := toldF_ok fun f args z h hs hf => by
  unfold keySp at hs
  split at hs
  · rename_i hf1; subst hf1
    split at hs
    · rename_i k; cases hs; exact keyR_ok k (by have := short1.1 hf; omega) h
    · cases hs
  · cases hs
noncomputable def endsR : Code := bodyOf Tryz.f14
theorem endsR_k : codeOk 14 endsR = true := by kernel_rfl
theorem endsR_ok {M : Mem} (a b : List Nat) (ha : a.length ≤ 1099511627776) (hb : b.length ≤ 1099511627776) (h : H) : CallS E M (.fn 14) [.s a, .s b] h (.tup [.s (1 :: a), .s (endL b)]) h := by
  have h1 : E.fn 14 = some Tryz.f14 := by kernel_rfl
  have h2 : Tryz.f14.body = some endsR := by kernel_rfl
  have h3 : Tryz.f14.ntmps = 14 := by kernel_rfl
  have h4 : Tryz.f14.results.toList = [.tmp 4, .tmp 5] := by kernel_rfl
  cases b with
  | nil => exact callS_T E_ok mixed keySp_ok h1 h2 h3 h4 endsR_k rfl (ts := [(9, .w (.s (1 :: a)) (fun h => h))]) 1 noTb_ok (tld (q := toldF keySp short (.fn 18) [.s a] h = some (.s (1 :: a), h) ∧ True) (by kernel_rfl) ⟨toldF_at rfl (short1.2 ha), trivial⟩) (by kernel_rfl)
  | cons c b => exact callS_T E_ok mixed keySp_ok h1 h2 h3 h4 endsR_k rfl (ts := [(11, .w (.s (1 :: a)) (fun h => h)), (13, .w (.s (1 :: c :: b)) (fun h => h))]) 1 noTb_ok (tld (q := toldF keySp short (.fn 18) [.s a] h = some (.s (1 :: a), h) ∧ toldF keySp short (.fn 18) [.s (c :: b)] h = some (.s (1 :: c :: b), h) ∧ True) (by kernel_rfl) ⟨toldF_at rfl (short1.2 ha), toldF_at rfl (short1.2 hb), trivial⟩) (by kernel_rfl)

/-- A key without its mark. -/
def plB : List Nat → Bool | 1 :: _ :: _ => true | _ => false
def plL : List Nat → List Nat | 1 :: c :: r => c :: r | _ => []
noncomputable def hasB : Code := bodyOf Tryz.f117
theorem has_k : codeOk 18 hasB = true := by kernel_rfl
def hp : List Nat → Bool | c :: _ => decide (c = 1) | _ => false
theorem has_ok {M : Mem} (k : List Nat) (h : H) : CallS E M (.fn 117) [.s k, .s [1]] h (.b (hp k)) h := by
  have h1 : E.fn 117 = some Tryz.f117 := by kernel_rfl
  have h2 : Tryz.f117.body = some hasB := by kernel_rfl
  have h3 : Tryz.f117.ntmps = 18 := by kernel_rfl
  have h4 : Tryz.f117.results.toList = [.tmp 4] := by kernel_rfl
  cases k with
  | nil => exact callS_T E_ok mixed noCall_ok h1 h2 h3 h4 has_k rfl (ts := []) 1 noTb_ok (tld (q := True) (by kernel_rfl) trivial) (by kernel_rfl)
  | cons c k =>
    rw [show hp (c :: k) = eqN [c] [1] by rw [eqN_eq]; by_cases hc : c = 1 <;> simp [hp, hc]]
    refine callS_T E_ok mixed noCall_ok h1 h2 h3 h4 has_k rfl (ts := [(9, .v (.b true)), (14, .v (.s [c])), (16, .v (.b (eqN [c] [1])))]) 1 noTb_ok (tld (q := some (AV.b (iLe (.ofNat 1) (.ofNat (ln (c :: k))))) = some (.b true) ∧ Go.Proofs.YtfaemheimmndgaaGreatDoor.XI.valOf (keep h (aSlice E h 9 (.s (c :: k)) none (some (.i .i64 (.ofNat 1))))) = some (.s [c]) ∧ some (AV.b (eqN [c] [1])) = some (.b (eqN [c] [1])) ∧ True) (by kernel_rfl) ⟨q_le (by rw [ln_eq]; simp), q_upto strTy9 (by simp) rfl, rfl, trivial⟩) (by kernel_rfl)
def hasSp : FuncId → List AV → Option AV := fun f args => if f = 117 then (match args with | [.s k, .s [1]] => some (.b (hp k)) | _ => none) else none
theorem hasSp_ok {M : Mem} : CallOk E M (toldF hasSp short) := toldF_ok fun f args z h hs hf => by
  unfold hasSp at hs
  split at hs
  · rename_i hf1; subst hf1
    split at hs
    · rename_i k; cases hs; exact has_ok k h
    · cases hs
  · cases hs

noncomputable def cutB : Code := bodyOf Tryz.f83
theorem cut_k : codeOk 15 cutB = true := by kernel_rfl
theorem cut_ok {M : Mem} (k : List Nat) (hk : k.length ≤ 1099511627776) (h : H) : CallS E M (.fn 83) [.s k, .s [1]] h (.tup [.s (if hp k then k.tail else k), .b (hp k)]) h := by
  have h1 : E.fn 83 = some Tryz.f83 := by kernel_rfl
  have h2 : Tryz.f83.body = some cutB := by kernel_rfl
  have h3 : Tryz.f83.ntmps = 15 := by kernel_rfl
  have h4 : Tryz.f83.results.toList = [.tmp 4, .tmp 5] := by kernel_rfl
  have hs : short [.s k, .s [1]] := short2.2 ⟨hk, by simp⟩
  cases hb : hp k with
  | false => 
    exact callS_T E_ok mixed hasSp_ok h1 h2 h3 h4 cut_k rfl (ts := [(8, .w (.b false) (fun h => h))]) 1 noTb_ok (tld (q := toldF hasSp short (.fn 117) [.s k, .s [1]] h = some (.b false, h) ∧ True) (by kernel_rfl) ⟨toldF_at (by rw [← hb]; rfl) hs, trivial⟩) (by kernel_rfl)
  | true =>
    exact callS_T E_ok mixed hasSp_ok h1 h2 h3 h4 cut_k rfl (ts := [(8, .w (.b true) (fun h => h)), (14, .v (.s k.tail))]) 1 noTb_ok (tld (q := toldF hasSp short (.fn 117) [.s k, .s [1]] h = some (.b true, h) ∧ Go.Proofs.YtfaemheimmndgaaGreatDoor.XI.valOf (keep h (aSlice E h 9 (.s k) (some (.i .i64 (.ofNat 1))) none)) = some (.s k.tail) ∧ True) (by kernel_rfl) ⟨toldF_at (by rw [← hb]; rfl) hs, q_from strTy9 (by cases k <;> simp [hp] at hb ⊢) (by simp), trivial⟩) (by kernel_rfl)

noncomputable def cut2B : Code := bodyOf Tryz.f45
theorem cut2_k : codeOk 11 cut2B = true := by kernel_rfl
def cutSp : FuncId → List AV → Option AV := fun f args => if f = 83 then (match args with | [.s k, .s [1]] => some (.tup [.s (if hp k then k.tail else k), .b (hp k)]) | _ => none) else none
theorem cutSp_ok {M : Mem} : CallOk E M (toldF cutSp short) := toldF_ok fun f args z h hs hf => by
  unfold cutSp at hs
  split at hs
  · rename_i hf1; subst hf1
    split at hs
    · rename_i k; cases hs; exact cut_ok k (short2.1 hf).1 h
    · cases hs
  · cases hs
theorem cut2_ok {M : Mem} (k : List Nat) (hk : k.length ≤ 1099511627776) (h : H) : CallS E M (.fn 45) [.s k, .s [1]] h (.tup [.s (if hp k then k.tail else k), .b (hp k)]) h := by
  have h1 : E.fn 45 = some Tryz.f45 := by kernel_rfl
  have h2 : Tryz.f45.body = some cut2B := by kernel_rfl
  have h3 : Tryz.f45.ntmps = 11 := by kernel_rfl
  have h4 : Tryz.f45.results.toList = [.tmp 4, .tmp 5] := by kernel_rfl
  have hs : short [.s k, .s [1]] := short2.2 ⟨hk, by simp⟩
  exact callS_T E_ok mixed cutSp_ok h1 h2 h3 h4 cut2_k rfl (ts := [(8, .w (.tup [.s (if hp k then k.tail else k), .b (hp k)]) (fun h => h))]) 1 noTb_ok (tld (q := toldF cutSp short (.fn 83) [.s k, .s [1]] h = some (.tup [.s (if hp k then k.tail else k), .b (hp k)], h) ∧ True) (by kernel_rfl) ⟨toldF_at rfl hs, trivial⟩) (by kernel_rfl)
def cut2Sp : FuncId → List AV → Option AV := fun f args => if f = 45 then (match args with | [.s k, .s [1]] => some (.tup [.s (if hp k then k.tail else k), .b (hp k)]) | _ => none) else none
theorem cut2Sp_ok {M : Mem} : CallOk E M (toldF cut2Sp short) := toldF_ok fun f args z h hs hf => by
  unfold cut2Sp at hs
  split at hs
  · rename_i hf1; subst hf1
    split at hs
    · rename_i k; cases hs; exact cut2_ok k (short2.1 hf).1 h
    · cases hs
  · cases hs
noncomputable def plainB : Code := bodyOf Tryz.f15
theorem plain_k : codeOk 18 plainB = true := by kernel_rfl
theorem plain_ok {M : Mem} (k : List Nat) (hk : k.length ≤ 1099511627776) (h : H) : CallS E M (.fn 15) [.s k] h (.tup [.s (plL k), .b (plB k)]) h := by
  have h1 : E.fn 15 = some Tryz.f15 := by kernel_rfl
  have h2 : Tryz.f15.body = some plainB := by kernel_rfl
  have h3 : Tryz.f15.ntmps = 18 := by kernel_rfl
  have h4 : Tryz.f15.results.toList = [.tmp 2, .tmp 3] := by kernel_rfl
  have hs : short [.s k, .s [1]] := short2.2 ⟨hk, by simp⟩
  cases hb : hp k with
  | false =>
    have e1 : plL k = [] := by
      unfold plL; split
      · simp [hp] at hb
      · rfl
    have e2 : plB k = false := by
      unfold plB; split
      · simp [hp] at hb
      · rfl
    rw [e1, e2]
    exact callS_T E_ok mixed cut2Sp_ok h1 h2 h3 h4 plain_k rfl (ts := [(8, .w (.tup [.s k, .b false]) (fun h => h))]) 1 noTb_ok (tld (q := toldF cut2Sp short (.fn 45) [.s k, .s [1]] h = some (.tup [.s k, .b false], h) ∧ True) (by kernel_rfl) ⟨toldF_at (by simp [cut2Sp, hb]) hs, trivial⟩) (by kernel_rfl)
  | true =>
    obtain ⟨r, rfl⟩ : ∃ r, k = 1 :: r := by
      cases k with
      | nil => simp [hp] at hb
      | cons c r => simp [hp] at hb; exact ⟨r, by rw [hb]⟩
    cases r with
    | nil => exact callS_T E_ok mixed cut2Sp_ok h1 h2 h3 h4 plain_k rfl (ts := [(8, .w (.tup [.s [], .b true]) (fun h => h))]) 1 noTb_ok (tld (q := toldF cut2Sp short (.fn 45) [.s [1], .s [1]] h = some (.tup [.s [], .b true], h) ∧ True) (by kernel_rfl) ⟨toldF_at (by simp [cut2Sp, hb]) hs, trivial⟩) (by kernel_rfl)
    | cons c r => exact callS_T E_ok mixed cut2Sp_ok h1 h2 h3 h4 plain_k rfl (ts := [(8, .w (.tup [.s (c :: r), .b true]) (fun h => h))]) 1 noTb_ok (tld (q := toldF cut2Sp short (.fn 45) [.s (1 :: c :: r), .s [1]] h = some (.tup [.s (c :: r), .b true], h) ∧ True) (by kernel_rfl) ⟨toldF_at (by simp [cut2Sp, hb]) hs, trivial⟩) (by kernel_rfl)
noncomputable def plainR : Code := bodyOf Tryz.f16
theorem plainR_k : codeOk 14 plainR = true := by kernel_rfl
theorem plainR_ok {M : Mem} (k : List Nat) (hk : k.length ≤ 1099511627776) (h : H) : CallS E M (.fn 16) [.s k] h (.tup [.s (plL k), .b (plB k)]) h := by
  have h1 : E.fn 16 = some Tryz.f16 := by kernel_rfl
  have h2 : Tryz.f16.body = some plainR := by kernel_rfl
  have h3 : Tryz.f16.ntmps = 14 := by kernel_rfl
  have h4 : Tryz.f16.results.toList = [.tmp 2, .tmp 3] := by kernel_rfl
  match k with
  | [] => exact callS_T E_ok mixed noCall_ok h1 h2 h3 h4 plainR_k rfl (ts := []) 1 noTb_ok (tld (q := True) (by kernel_rfl) trivial) (by kernel_rfl)
  | [c] => 
    rw [show plL [c] = [] by unfold plL; split <;> simp_all, show plB [c] = false by unfold plB; split <;> simp_all]
    exact callS_T E_ok mixed noCall_ok h1 h2 h3 h4 plainR_k rfl (ts := []) 1 noTb_ok (tld (q := True) (by kernel_rfl) trivial) (by kernel_rfl)
  | c :: d :: r =>
    have i0 : some (AV.b (iLt (.ofNat (ln (c :: d :: r))) (.ofNat 2))) = some (.b false) := by rw [iLt_eq, ln_eq]; simp; omega
    have i1 : Go.Proofs.YtfaemheimmndgaaGreatDoor.XI.valOf (keep h (aIndex E 9 (.s (c :: d :: r)) (.i .i64 (.ofNat 0)))) = some (.i .u8 (.ofNat c)) := q_index strTy9 rfl
    by_cases hc : c = 1
    · subst hc
      exact callS_T E_ok mixed noCall_ok h1 h2 h3 h4 plainR_k rfl (ts := [(6, .v (.b false)), (9, .v (.i .u8 (.ofNat 1))), (13, .v (.s (d :: r)))]) 1 noTb_ok
        (tld (q := some (AV.b (iLt (.ofNat (ln (1 :: d :: r))) (.ofNat 2))) = some (.b false) ∧ Go.Proofs.YtfaemheimmndgaaGreatDoor.XI.valOf (keep h (aIndex E 9 (.s (1 :: d :: r)) (.i .i64 (.ofNat 0)))) = some (.i .u8 (.ofNat 1)) ∧ Go.Proofs.YtfaemheimmndgaaGreatDoor.XI.valOf (keep h (aSlice E h 9 (.s (1 :: d :: r)) (some (.i .i64 (.ofNat 1))) none)) = some (.s (d :: r)) ∧ True) (by kernel_rfl) ⟨i0, i1, q_from strTy9 (by simp) rfl, trivial⟩) (by kernel_rfl)
    · rw [show plL (c :: d :: r) = [] by unfold plL; split <;> simp_all, show plB (c :: d :: r) = false by unfold plB; split <;> simp_all]
      exact callS_T E_ok mixed noCall_ok h1 h2 h3 h4 plainR_k rfl (ts := [(6, .v (.b false)), (9, .v (.i .u8 (.ofNat c))), (10, .v (.b true))]) 1 noTb_ok
        (tld (q := some (AV.b (iLt (.ofNat (ln (c :: d :: r))) (.ofNat 2))) = some (.b false) ∧ Go.Proofs.YtfaemheimmndgaaGreatDoor.XI.valOf (keep h (aIndex E 9 (.s (c :: d :: r)) (.i .i64 (.ofNat 0)))) = some (.i .u8 (.ofNat c)) ∧ some (AV.b (bNot (iEq (.ofNat c) (.ofNat 1)))) = some (.b true) ∧ True) (by kernel_rfl) ⟨i0, i1, by rw [iEq_beq, bNot_eq]; simp; omega, trivial⟩) (by kernel_rfl)
end Go.Proofs.YtfaemheimmndgaaGreatDoor
