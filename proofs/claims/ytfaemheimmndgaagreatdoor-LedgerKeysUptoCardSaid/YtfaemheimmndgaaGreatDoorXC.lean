/- Operations on numbers and strings; equality. Part of a verified reckoner of runs: no condition. -/
import Derived.Test.YtfaemheimmndgaaGreatDoorXB
import Derived.Laws.StructEq
set_option linter.unusedVariables false
set_option linter.unusedSimpArgs false
namespace Go.Proofs.YtfaemheimmndgaaGreatDoor.XI
noncomputable section

/-! ### 6. Operations that leave the world alone -/
def iBin (op : BinOp) : IntKind → Int → Int → Option AV :=
  match op with
  | .add => fun k a b => some (.i k (wr k (iAdd a b)))
  | .sub => fun k a b => some (.i k (wr k (iSub a b)))
  | .mul => fun k a b => some (.i k (wr k (a * b)))
  | .quo => fun k a b => cond (iEq b 0) none (some (.i k (wr k (a.tdiv b))))
  | .rem => fun k a b => cond (iEq b 0) none (some (.i k (a.tmod b)))
  | .and => fun k a b => some (.i k (bitF k Nat.land (k.wrap ((BitVec.ofInt k.bits a &&& BitVec.ofInt k.bits b).toNat : Int)) a b))
  | .or => fun k a b => some (.i k (bitF k Nat.lor (k.wrap ((BitVec.ofInt k.bits a ||| BitVec.ofInt k.bits b).toNat : Int)) a b))
  | .xor => fun k a b => some (.i k (bitF k Nat.xor (k.wrap ((BitVec.ofInt k.bits a ^^^ BitVec.ofInt k.bits b).toNat : Int)) a b))
  | .andNot => fun k a b => some (.i k (k.wrap ((BitVec.ofInt k.bits a &&& ~~~ BitVec.ofInt k.bits b).toNat : Int)))
  | .eql => fun _ a b => some (.b (iEq a b))
  | .neq => fun _ a b => some (.b (bNot (iEq a b)))
  | .lss => fun _ a b => some (.b (iLt a b))
  | .leq => fun _ a b => some (.b (iLe a b))
  | .gtr => fun _ a b => some (.b (iLt b a))
  | .geq => fun _ a b => some (.b (iLe b a))
  | _ => fun _ _ _ => none
def iShift (op : BinOp) : IntKind → Int → Int → Option AV :=
  match op with
  | .shl => fun k a b => cond (iLt b 0) none (some (.i k (wr k (shlF a (min b.toNat k.bits)))))
  | .shr => fun k a b => cond (iLt b 0) none (some (.i k (shrF (a.fdiv (2 ^ (min b.toNat k.bits))) a (min b.toNat k.bits))))
  | _ => fun _ _ _ => none
def isShift : BinOp → Bool | .shl | .shr => true | _ => false

def lessN : List Nat → List Nat → Bool
  | _, [] => false
  | [], _ :: _ => true
  | a :: x, b :: y => decide (a < b) || (a == b && lessN x y)
def sBin (op : BinOp) : List Nat → List Nat → Option AV :=
  match op with
  | .add => fun a b => cond (Nat.ble (ln a + ln b) 4611686018427387904) (some (.s (ap a b))) none
  | .eql => fun a b => some (.b (eqN a b))
  | .neq => fun a b => some (.b (bNot (eqN a b)))
  | .lss => fun a b => some (.b (lessN a b))
  | .leq => fun a b => some (.b (lessN a b || eqN a b))
  | .gtr => fun a b => some (.b (bNot (lessN a b || eqN a b)))
  | .geq => fun a b => some (.b (bNot (lessN a b)))
  | _ => fun _ _ => none

/-- What a piece of the model answers at once. -/
def semA (P : Program) : Sem Value → Option Value
  | .pure v => some v
  | .program k => semA P (k P)
  | _ => none
theorem semA_run {P : Program} : ∀ {s : Sem Value} {v : Value}, semA P s = some v → ∀ w, s.run P w = .ok v w
  | .pure v, _, h, w => by simp only [semA, Option.some.injEq] at h; subst h; rfl
  | .program k, _, h, w => by simp only [semA] at h; exact semA_run h w

def fBin (P : Program) (op : BinOp) (k : FloatKind) (a b : Nat) : Option AV :=
  match op with
  | .add | .sub | .mul | .quo => (semA P (Op.floatArith op k a b)).map ofAtom
  | _ => (semA P (Op.floatCmp op k a b)).map ofAtom

section
variable {P : Program} {σ : Nat → Loc} {A : Nat → Prop} {M : Mem} {w : World}

theorem andF (k : IntKind) (a b : Int) : bitF k Nat.land (k.wrap ((BitVec.ofInt k.bits a &&& BitVec.ofInt k.bits b).toNat : Int)) a b = k.wrap ((BitVec.ofInt k.bits a &&& BitVec.ofInt k.bits b).toNat : Int) :=
  bitF_eq k Nat.land (fun x y => x &&& y) (fun x y => by rw [BitVec.toNat_and]; rfl) (fun e m n h1 h2 => Nat.and_lt_two_pow m h2) a b
theorem orF (k : IntKind) (a b : Int) : bitF k Nat.lor (k.wrap ((BitVec.ofInt k.bits a ||| BitVec.ofInt k.bits b).toNat : Int)) a b = k.wrap ((BitVec.ofInt k.bits a ||| BitVec.ofInt k.bits b).toNat : Int) :=
  bitF_eq k Nat.lor (fun x y => x ||| y) (fun x y => by rw [BitVec.toNat_or]; rfl) (fun e m n h1 h2 => Nat.or_lt_two_pow h1 h2) a b
theorem xorF (k : IntKind) (a b : Int) : bitF k Nat.xor (k.wrap ((BitVec.ofInt k.bits a ^^^ BitVec.ofInt k.bits b).toNat : Int)) a b = k.wrap ((BitVec.ofInt k.bits a ^^^ BitVec.ofInt k.bits b).toNat : Int) :=
  bitF_eq k Nat.xor (fun x y => x ^^^ y) (fun x y => by rw [BitVec.toNat_xor]; rfl) (fun e m n h1 h2 => Nat.xor_lt_two_pow h1 h2) a b
theorem iBin_ok {op : BinOp} {k : IntKind} {a b : Int} {x : AV} (hx : iBin op k a b = some x) (hs : isShift op = false) (t : TypeId) : ∃ v, (binOp op t (.int k a) (.int k b)).run P w = .ok v w ∧ RelV σ A M x v := by
  cases op <;> simp only [iBin, Option.some.injEq, tk_eq, dp_eq, ap_eq, ln_eq, nt_eq, mp_eq, al_eq, st_eq, rpl_eq, eqN_eq, iLe_eq, iLt_eq, iEq_beq, bNot_eq, iAdd_eq, iSub_eq, wr_eq, cond_eq_if, ble_dec, natBeq, andF, orF, xorF] at hx <;> try (subst hx)
  case quo =>
    split at hx
    · cases hx
    · rename_i hb
      cases hx
      have hb : ¬ b = 0 := by simpa using hb
      exact ⟨_, by simp [binOp, Op.intDiv, hb], .i _ _⟩
  case rem =>
    split at hx
    · cases hx
    · rename_i hb
      cases hx
      have hb : ¬ b = 0 := by simpa using hb
      exact ⟨_, by simp [binOp, Op.intDiv, hb], .i _ _⟩
  case shl => cases hx
  case shr => cases hx
  all_goals first
    | (refine ⟨_, ?_, .i _ _⟩; simp [binOp, Op.intArith]; done)
    | (refine ⟨_, ?_, .i _ _⟩; simp [binOp, Op.intBits]; done)
    | (refine ⟨_, ?_, .b _⟩; simp [binOp, Op.intCmp, bne]; done)

theorem iShift_ok {op : BinOp} {k k' : IntKind} {a b : Int} {x : AV} (hx : iShift op k a b = some x) (t : TypeId) : ∃ v, (binOp op t (.int k a) (.int k' b)).run P w = .ok v w ∧ RelV σ A M x v := by
  cases op <;> simp only [iShift, tk_eq, dp_eq, ap_eq, ln_eq, nt_eq, mp_eq, al_eq, st_eq, rpl_eq, eqN_eq, iLe_eq, iLt_eq, iEq_beq, bNot_eq, iAdd_eq, iSub_eq, wr_eq, cond_eq_if, ble_dec, natBeq, shlF_eq, shrF_eq] at hx <;> try (cases hx; done)
  all_goals
    split at hx
    · cases hx
    · rename_i hb
      have hb : ¬ b < 0 := by simpa using hb
      cases hx
      exact ⟨_, by simp only [binOp, Op.shift, hb, if_false]; rfl, .i _ _⟩

theorem toList_eq (s : ByteArray) : s.toList = s.data.toList := ByteArray.toList_eq s
theorem nb_beq (s t : ByteArray) : (nb s == nb t) = (s.toList == t.toList) := by
  rw [toList_eq, toList_eq, Bool.eq_iff_iff, beq_iff_eq, beq_iff_eq]
  constructor
  · intro h; rw [nb_inj h]
  · intro h
    simp only [nb, h]
theorem lessN_map : ∀ x y : List UInt8, lessN (x.map (·.toNat)) (y.map (·.toNat)) = Op.bytesLess x y
  | _, [] => by cases ‹List UInt8› <;> rfl
  | [], _ :: _ => rfl
  | a :: x, b :: y => by
    simp only [List.map_cons, lessN, Op.bytesLess, lessN_map x y]
    congr 1
    congr 1
    rw [Bool.eq_iff_iff]
    simp [UInt8.toNat_inj]
theorem nb_less (s t : ByteArray) : lessN (nb s) (nb t) = Op.bytesLess s.toList t.toList := by
  rw [toList_eq, toList_eq]; exact lessN_map _ _
theorem nb_append (s t : ByteArray) : nb (s ++ t) = nb s ++ nb t := by
  simp [nb, ByteArray.data_append]

theorem sBin_ok {op : BinOp} {s1 s2 : ByteArray} {x : AV} (hx : sBin op (nb s1) (nb s2) = some x) (t : TypeId) : ∃ v, (binOp op t (.string s1) (.string s2)).run P w = .ok v w ∧ RelV σ A M x v := by
  cases op <;> simp only [sBin, Option.some.injEq, tk_eq, dp_eq, ap_eq, ln_eq, nt_eq, mp_eq, al_eq, st_eq, rpl_eq, eqN_eq, iLe_eq, iLt_eq, iEq_beq, bNot_eq, iAdd_eq, iSub_eq, wr_eq, cond_eq_if, ble_dec, natBeq] at hx <;> (try (cases hx; done)) <;> (try (subst hx))
  case add =>
    split at hx
    · rename_i hl
      cases hx
      have hl : (nb s1).length + (nb s2).length ≤ 4611686018427387904 := by simpa using hl
      rw [nb_length, nb_length] at hl
      refine ⟨_, ?_, .s _ (s1 ++ s2) (nb_append s1 s2)⟩
      simp only [binOp, Op.stringOp]
      rw [if_neg]
      · rfl
      · simp [IntKind.max, IntKind.signed, IntKind.bits]; omega
    · cases hx
  all_goals
    refine ⟨_, by simp only [binOp, Op.stringOp]; rfl, ?_⟩
    simp only [nb_beq, nb_less]
    exact .b _

theorem fBin_ok {op : BinOp} {k : FloatKind} {a b : Nat} {x : AV} (hx : fBin P op k a b = some x) (t : TypeId) : ∃ v, (binOp op t (.float k a) (.float k b)).run P w = .ok v w ∧ RelV σ A M x v := by
  unfold fBin at hx
  cases op <;> simp only [Option.map_eq_some_iff] at hx <;> obtain ⟨v, hv, rfl⟩ := hx <;> (have hr := semA_run hv w) <;> refine ⟨v, ?_, rel_ofAtom v⟩ <;>
    first
      | (simp only [Op.floatCmp, semA] at hv; cases hv; done)
      | (simpa [binOp] using hr)
      | (simp [Op.floatCmp, stuck, semA] at hv)
end

/-! #### Equality -/
/-- A part of an aggregate. -/
def aSub (i : TI) (cs : List AV) (off : Nat) : Option AV :=
  cond i.isAgg (cond (Nat.ble (off + i.size) (ln cs)) (some (.agg (tk i.size (dp off cs)))) none) (nt cs off)

def eqF (E : Env) (eq : TypeId → AV → AV → Option Bool) (xs ys : List AV) : List Field → Option Bool
  | [] => some true
  | f :: fs =>
    if f.name = "_" then eqF E eq xs ys fs else
    match E.ty f.type with
    | some j =>
      match aSub j xs f.offset, aSub j ys f.offset with
      | some a, some b => match eq f.type a b with
        | some true => eqF E eq xs ys fs
        | some false => some false
        | none => none
      | _, _ => none
    | none => none
def eqR (eq : AV → AV → Option Bool) (j : TI) (xs ys : List AV) : Nat → Nat → Option Bool
  | 0, _ => some true
  | len + 1, k =>
    match aSub j xs (k * j.size), aSub j ys (k * j.size) with
    | some a, some b => match eq a b with
      | some true => eqR eq j xs ys len (k + 1)
      | some false => some false
      | none => none
    | _, _ => none
def eqD (E : Env) (eq : TypeId → AV → AV → Option Bool) (i : TI) : TypeDesc → AV → AV → Option Bool
  | .bool, .b a, .b b => some (a == b)
  | .int _, .i k a, .i k' b => if k = k' then some (iEq a b) else none
  | .string, .s a, .s b => some (eqN a b)
  | .pointer _, .nilp, .nilp => some true
  | .pointer _, .p _ _, .nilp => some false
  | .pointer _, .rp _, .nilp => some false
  | .pointer _, .nilp, .p _ _ => some false
  | .pointer _, .nilp, .rp _ => some false
  | .slice _, .nils, .nils => some true
  | .slice _, .sl _ _ _ _ _, .nils => some false
  | .slice _, .nils, .sl _ _ _ _ _ => some false
  | .map _ _, .nilm, .nilm => some true
  | .map _ _, .m _, .nilm => some false
  | .map _ _, .nilm, .m _ => some false
  | .func _ _ _, .nilf, .nilf => some true
  | .func _ _ _, .fn _ _ _, .nilf => some false
  | .func _ _ _, .nilf, .fn _ _ _ => some false
  | .interface _, .nili, .nili => some true
  | .interface _, .nili, .ifc _ _ => some false
  | .interface _, .ifc _ _, .nili => some false
  | .struct fs, .agg xs, .agg ys => if i.eqOk then eqF E eq xs ys fs.toList else none
  | .array len e, .agg xs, .agg ys => match E.ty e with
    | some j => eqR (eq e) j xs ys len 0
    | none => none
  | _, _, _ => none
def eqA (E : Env) : Nat → TypeId → AV → AV → Option Bool
  | 0, _, _, _ => none
  | n + 1, t, x, y => match E.ty t with
    | some i => eqD E (eqA E n) i i.desc x y
    | none => none

section
variable {E : Env} {σ : Nat → Loc} {A : Nat → Prop} {M : Mem} {w : World}

theorem aSub_ok (ok : E.Ok) {t : TypeId} {i : TI} (ht : E.ty t = some i) {cs : List AV} {off : Nat} {x : AV} (hx : aSub i cs off = some x) {vs : Array Value} (hr : RelL σ A M cs vs.toList) :
    ∃ v, (part t vs off).run E.P w = .ok v w ∧ RelV σ A M x v := by
  unfold aSub at hx
  simp only [tk_eq, dp_eq, ap_eq, ln_eq, nt_eq, mp_eq, al_eq, st_eq, rpl_eq, eqN_eq, iLe_eq, iLt_eq, iEq_beq, bNot_eq, iAdd_eq, iSub_eq, wr_eq, cond_eq_if, ble_dec, natBeq, decide_eq_true_eq] at hx
  unfold part
  simp only [Sem.run_bind, ok.agg w ht, Result.andThen_ok]
  cases ha : i.isAgg
  · simp only [ha, Bool.false_eq_true, if_false] at hx ⊢
    obtain ⟨v, hv, hrv⟩ := hr.get hx
    have hv' : vs[off]? = some v := by simpa using hv
    exact ⟨v, by simp [hv'], hrv⟩
  · simp only [ha, if_true] at hx ⊢
    split at hx
    · rename_i hsz
      cases hx
      refine ⟨.agg (vs.extract off (off + i.size)), by simp [ok.siz w ht], .agg _ _ ?_⟩
      have := (hr.drop off).take i.size
      rw [Array.toList_extract]
      simpa [List.extract_eq_take_drop] using this
    · cases hx

theorem eqA_ok (ok : E.Ok) : ∀ (n : Nat) (t : TypeId) (x y : AV) (r : Bool), eqA E n t x y = some r → ∀ (v u : Value) (d : Nat), n ≤ d → RelV σ A M x v → RelV σ A M y u → (Op.equalIn d t v u).run E.P w = .ok r w := by
  intro n
  induction n with
  | zero => intro t x y r h; simp [eqA] at h
  | succ n ih =>
    intro t x y r h v u d hd hv hu
    obtain ⟨d, rfl⟩ : ∃ m, d = m + 1 := ⟨d - 1, by omega⟩
    simp only [eqA] at h
    split at h
    case h_2 => cases h
    rename_i i hi
    have hund := ok.und w hi
    have hP := (ok.ty t i hi).1
    revert h
    generalize hdesc : i.desc = ds at hund hP
    intro h
    unfold eqD at h
    split at h <;> try (cases h; done)
    case h_1 => cases hv; cases hu; cases h; simp [Op.equalIn, hund]
    case h_2 =>
      split at h
      · rename_i e; subst e; cases hv; cases hu; cases h; rw [iEq_beq]; simp [Op.equalIn, hund]
      · cases h
    case h_3 =>
      cases hv with | s _ s1 h1 => cases hu with | s _ s2 h2 =>
      cases h
      subst h1 h2
      rw [eqN_eq, nb_beq]
      rw [run_equalIn_string w d t s1 s2 hP]
    case h_21 fs xs ys =>
      split at h
      case isFalse => cases h
      rename_i heq
      cases hv with | agg _ vs h1 => cases hu with | agg _ us h2 =>
      have hf : E.P.fieldsOf t = fs := by simp [Program.fieldsOf, hP]
      rw [run_equalIn_struct w d t vs us (by rw [hf]; exact hP) (ok.eqOk t i hi heq).1, hf]
      revert h
      generalize fs.toList = l
      intro h
      induction l with
      | nil => simp only [eqF, Option.some.injEq] at h; subst h; simp [Op.eqFields]
      | cons f l ihl =>
        simp only [eqF] at h
        simp only [Op.eqFields]
        split at h
        · rename_i hn; simp only [hn, ne_eq, not_true_eq_false, if_false]; exact ihl h
        · rename_i hn
          simp only [hn, ne_eq, not_false_eq_true, if_true]
          split at h
          case h_2 => cases h
          rename_i j hj
          split at h
          case h_2 => cases h
          rename_i a b ha hb
          obtain ⟨va, ra, ra'⟩ := aSub_ok (w := w) ok hj ha h1
          obtain ⟨vb, rb, rb'⟩ := aSub_ok (w := w) ok hj hb h2
          simp only [Sem.run_bind, ra, rb, Result.andThen_ok]
          split at h
          · rename_i hq
            rw [ih _ _ _ _ hq va vb d (by omega) ra' rb']
            simpa using ihl h
          · rename_i hq
            cases h
            rw [ih _ _ _ _ hq va vb d (by omega) ra' rb']
            simp
          · cases h
    case h_22 len e xs ys =>
      split at h
      case h_2 => cases h
      rename_i j hj
      cases hv with | agg _ vs h1 => cases hu with | agg _ us h2 =>
      simp only [Op.equalIn, Sem.run_bind, hund, Result.andThen_ok, ok.siz w hj, Std.Legacy.Range.forIn_eq_forIn_range', Std.Legacy.Range.size, Nat.sub_zero, Nat.add_sub_cancel, Nat.div_one]
      clear hdesc hund hP hi
      revert h
      generalize (0 : Nat) = k
      induction len generalizing k with
      | zero => intro h; simp only [eqR, Option.some.injEq] at h; subst h; simp
      | succ len ihl =>
        intro h
        simp only [eqR] at h
        split at h
        case h_2 => cases h
        rename_i a b ha hb
        obtain ⟨va, ra, ra'⟩ := aSub_ok (w := w) ok hj ha h1
        obtain ⟨vb, rb, rb'⟩ := aSub_ok (w := w) ok hj hb h2
        rw [List.range'_succ, List.forIn_cons]
        simp only [Sem.run_bind, ra, rb, Result.andThen_ok]
        split at h
        · rename_i hq
          rw [ih _ _ _ _ hq va vb d (by omega) ra' rb']
          simpa using ihl (k + 1) h
        · rename_i hq
          cases h
          rw [ih _ _ _ _ hq va vb d (by omega) ra' rb']
          simp
        · cases h
    all_goals
      cases hv
      cases hu
      cases h
      simp [Op.equalIn, hund]
end
end
end Go.Proofs.YtfaemheimmndgaaGreatDoor.XI
