/- Operations that do not look at the heap. Part of a verified reckoner of runs: no condition. -/
import Derived.Test.YtfaemheimmndgaaGreatDoorXC
set_option linter.unusedVariables false
set_option linter.unusedSimpArgs false
namespace Go.Proofs.YtfaemheimmndgaaGreatDoor.XI
noncomputable section

def tagV : Value → Nat | .int _ _ => 1 | .float _ _ => 2 | .complex _ _ _ => 3 | .string _ => 4 | _ => 0
def tagA : AV → Nat | .i _ _ => 1 | .f _ _ => 2 | .s _ => 4 | .any => 5 | _ => 0
def isK : Operand → Bool | .const _ => true | _ => false
def isEq : BinOp → Bool | .eql | .neq => true | _ => false

section
variable {P : Program} {σ : Nat → Loc} {A : Nat → Prop} {M : Mem} {w : World}
theorem RelV.tag {x : AV} {v : Value} (h : RelV σ A M x v) (hx : x ≠ .any) (ht : ∀ i, x ≠ .tok i) : tagV v = tagA x := by
  cases h <;> first | rfl | exact absurd rfl hx | exact absurd rfl (ht _)

theorem run_binOp_eql (t : TypeId) (v u : Value) (h : tagV v = 0 ∨ tagV v ≠ tagV u) : binOp .eql t v u = (do pure (.bool (← Op.equal t v u))) := by
  cases v <;> cases u <;> first | rfl | (simp [tagV] at h)
theorem run_binOp_neq (t : TypeId) (v u : Value) (h : tagV v = 0 ∨ tagV v ≠ tagV u) : binOp .neq t v u = (do pure (.bool (!(← Op.equal t v u)))) := by
  cases v <;> cases u <;> first | rfl | (simp [tagV] at h)

theorem eqGuard_not (op : BinOp) (t : TypeId) (x y : Operand) (a b : Value) (h : isEq op = false) : (eqGuard op t x y a b).run P w = .ok () w := by
  cases op <;> first | rfl | (simp [isEq] at h)

theorem eqGuard_ok (op : BinOp) (t : TypeId) (x y : Operand) (a b : Value) (h1 : a = .nilIface → b = .nilIface → (isK x || isK y) = true) (h2 : ∀ xs ys, a = .agg xs → b = .agg ys → P.eqGuardType P.depth t = false) :
    (eqGuard op t x y a b).run P w = .ok () w := by
  cases a <;> cases b <;> try (cases op <;> rfl)
  case nilIface.nilIface =>
    have := h1 rfl rfl
    cases op <;> (try rfl) <;> cases x <;> cases y <;> first | rfl | (simp [isK] at this)
  case agg.agg xs ys => exact run_eqGuard_agg w op t x y xs ys (h2 xs ys rfl rfl)
end

/-- The shapes at which '==' is asked of the model's own test. -/
def eqShape (cx cy : Bool) : AV → AV → Bool
  | .nili, .nili => cx || cy
  | .any, _ => false
  | _, .any => false
  | .tok _, _ => false
  | _, .tok _ => false
  | .i _ _, .i _ _ => false
  | .f _ _, .f _ _ => false
  | .s _, .s _ => false
  | _, _ => true

def aBin (E : Env) (op : BinOp) (t : TypeId) (cx cy : Bool) (x y : AV) : Option AV :=
  match x, y with
  | .i k a, .i k' b => if isShift op then iShift op k a b else if k = k' then iBin op k a b else none
  | .f k a, .f k' b => if k = k' then fBin E.P op k a b else none
  | .s a, .s b => sBin op a b
  | x, y => if eqShape cx cy x y then (match op with
    | .eql => (eqA E 8 t x y).map .b
    | .neq => (eqA E 8 t x y).map fun r => .b (!r)
    | _ => none) else none

def aggOk (E : Env) (t : TypeId) : AV → AV → Bool
  | .agg _, .agg _ => match E.ty t with | some i => i.eqOk || (match i.desc with | .struct _ => false | _ => false) | none => false
  | _, _ => true

section
variable {E : Env} {σ : Nat → Loc} {A : Nat → Prop} {M : Mem} {w : World}

/-- '==' of aggregates needs that its type has no interface inside. -/
theorem aBin_eq_ok (ok : E.Ok) {op : BinOp} {t : TypeId} {ox oy : Operand} {x y : AV} {r : Bool} (hop : isEq op = true) (hq : eqA E 8 t x y = some r) (hs : eqShape (isK ox) (isK oy) x y = true)
    (hg : ∀ xs ys, x = .agg xs → y = .agg ys → E.P.eqGuardType E.P.depth t = false) {v u : Value} (hv : RelV σ A M x v) (hu : RelV σ A M y u) :
    (do eqGuard op t ox oy v u; binOp op t v u : Sem Value).run E.P w = .ok (.bool (if op matches .eql then r else !r)) w := by
  have hax : x ≠ .any := by rintro rfl; simp [eqShape] at hs
  have hay : y ≠ .any := by rintro rfl; cases x <;> simp [eqShape] at hs
  have hxt : ∀ i, x ≠ .tok i := by rintro i rfl; cases y <;> simp [eqShape] at hs
  have hyt : ∀ i, y ≠ .tok i := by rintro i rfl; cases x <;> simp [eqShape] at hs
  have hg' : (eqGuard op t ox oy v u).run E.P w = .ok () w := by
    refine eqGuard_ok op t ox oy v u (fun e1 e2 => ?_) (fun xs ys e1 e2 => ?_)
    · subst e1 e2
      cases hv <;> first | exact absurd rfl hax | exact absurd rfl (hxt _) | skip
      cases hu <;> first | exact absurd rfl hay | exact absurd rfl (hyt _) | skip
      exact hs
    · subst e1 e2
      cases hv <;> first | exact absurd rfl hax | exact absurd rfl (hxt _) | skip
      cases hu <;> first | exact absurd rfl hay | exact absurd rfl (hyt _) | skip
      exact hg _ _ rfl rfl
  have htag : tagV v = 0 ∨ tagV v ≠ tagV u := by
    rw [hv.tag hax hxt, hu.tag hay hyt]
    cases x <;> cases y <;> first | exact .inl rfl | (exfalso; simp [eqShape] at hs; done) | (right; simp [tagA])
  have he := eqA_ok (w := w) ok 8 t x y r hq v u 10000 (by omega) hv hu
  rw [Sem.run_bind, hg', Result.andThen_ok]
  cases op <;> first | (simp [isEq] at hop; done) | skip
  · rw [run_binOp_eql t v u htag]
    simp [Op.equal, Op.maxDepth, he]
  · rw [run_binOp_neq t v u htag]
    simp [Op.equal, Op.maxDepth, he]

theorem aBin_ok (ok : E.Ok) {op : BinOp} {t : TypeId} {ox oy : Operand} {x y z : AV} (hx : aBin E op t (isK ox) (isK oy) x y = some z) (hagg : aggOk E t x y = true) {v u : Value} (hv : RelV σ A M x v) (hu : RelV σ A M y u) :
    ∃ r, (do eqGuard op t ox oy v u; binOp op t v u : Sem Value).run E.P w = .ok r w ∧ RelV σ A M z r := by
  unfold aBin at hx
  split at hx
  · rename_i k a k' b
    cases hv; cases hu
    have hgd : (eqGuard op t ox oy (.int k a) (.int k' b)).run E.P w = .ok () w := eqGuard_ok _ _ _ _ _ _ (fun e => by cases e) (fun _ _ e => by cases e)
    split at hx
    · obtain ⟨r, h1, h2⟩ := iShift_ok (P := E.P) (w := w) hx t
      exact ⟨r, by rw [Sem.run_bind, hgd]; exact h1, h2⟩
    · rename_i hsh
      split at hx
      · rename_i hk
        subst hk
        obtain ⟨r, h1, h2⟩ := iBin_ok (P := E.P) (w := w) hx (by simpa using hsh) t
        exact ⟨r, by rw [Sem.run_bind, hgd]; exact h1, h2⟩
      · cases hx
  · rename_i k a k' b
    cases hv; cases hu
    have hgd : (eqGuard op t ox oy (.float k a) (.float k' b)).run E.P w = .ok () w := eqGuard_ok _ _ _ _ _ _ (fun e => by cases e) (fun _ _ e => by cases e)
    split at hx
    · rename_i hk
      subst hk
      obtain ⟨r, h1, h2⟩ := fBin_ok (P := E.P) (w := w) hx t
      exact ⟨r, by rw [Sem.run_bind, hgd]; exact h1, h2⟩
    · cases hx
  · rename_i a b
    cases hv with | s _ s1 e1 => cases hu with | s _ s2 e2 =>
    subst e1 e2
    have hgd : (eqGuard op t ox oy (.string s1) (.string s2)).run E.P w = .ok () w := eqGuard_ok _ _ _ _ _ _ (fun e => by cases e) (fun _ _ e => by cases e)
    obtain ⟨r, h1, h2⟩ := sBin_ok (P := E.P) (w := w) hx t
    exact ⟨r, by rw [Sem.run_bind, hgd]; exact h1, h2⟩
  · split at hx
    · rename_i hs
      have hg : ∀ xs ys, x = .agg xs → y = .agg ys → E.P.eqGuardType E.P.depth t = false := by
        rintro xs ys rfl rfl
        simp only [aggOk] at hagg
        split at hagg
        · rename_i i hi
          refine (ok.eqOk t i hi ?_).2
          cases hd : i.desc <;> simp_all
        · cases hagg
      split at hx
      · simp only [Option.map_eq_some_iff] at hx
        obtain ⟨r, hq, rfl⟩ := hx
        exact ⟨_, aBin_eq_ok ok rfl hq hs hg hv hu, .b r⟩
      · simp only [Option.map_eq_some_iff] at hx
        obtain ⟨r, hq, rfl⟩ := hx
        exact ⟨_, aBin_eq_ok ok rfl hq hs hg hv hu, .b (!r)⟩
      · cases hx
    · cases hx

/-! #### Unary, conversions -/
def aUn (op : UnOp) (x : AV) : Option AV :=
  match op, x with
  | .neg, .i k n => some (.i k (k.wrap (0 - n)))
  | .xor, .i k n => some (.i k (k.wrap ((BitVec.ofInt k.bits (if k.signed then -1 else k.max) ^^^ BitVec.ofInt k.bits n).toNat : Int)))
  | .not, .b b => some (.b (!b))
  | .neg, .f k b => some (.f k (Op.negFloat k b))
  | _, _ => none
theorem aUn_ok {P : Program} {op : UnOp} {x z : AV} (hx : aUn op x = some z) {v : Value} (hv : RelV σ A M x v) : ∃ r, (Op.unary op v).run P w = .ok r w ∧ RelV σ A M z r := by
  unfold aUn at hx
  split at hx
  · cases hv; cases hx; exact ⟨_, rfl, .i _ _⟩
  · cases hv; cases hx; exact ⟨_, rfl, .i _ _⟩
  · cases hv; cases hx; exact ⟨_, rfl, .b _⟩
  · cases hv; cases hx; exact ⟨_, rfl, .f _ _⟩
  · cases hx

def aConv (E : Env) (src dst : TypeId) (x : AV) : Option AV :=
  match E.ty src, E.ty dst with
  | some i, some j =>
    match j.desc, x with
    | .int k, .i _ n => some (.i k (k.wrap n))
    | .float k, .i _ n => some (.f k (k.nearest n))
    | .int k, .f s b => (semA E.P (Conv.floatToInt s b k)).map ofAtom
    | .float k, .f s b => (semA E.P (Conv.floatToFloat s b k)).map ofAtom
    | .string, .s l => some (.s l)
    | _, _ => none
  | _, _ => none
theorem aConv_ok (ok : E.Ok) {src dst : TypeId} {x z : AV} (hx : aConv E src dst x = some z) {v : Value} (hv : RelV σ A M x v) : ∃ r, (convert src dst v).run E.P w = .ok r w ∧ RelV σ A M z r := by
  unfold aConv at hx
  split at hx
  case h_2 => cases hx
  rename_i i j hi hj
  have h1 := ok.und w hi
  have h2 := ok.und w hj
  split at hx
  · rename_i hd; cases hv; cases hx
    rw [hd] at h2
    exact ⟨.int _ _, by simp [convert, h1, h2, Conv.intToInt], .i _ _⟩
  · rename_i hd; cases hv; cases hx
    rw [hd] at h2
    exact ⟨.float _ _, by simp [convert, h1, h2, Conv.intToFloat], .f _ _⟩
  · rename_i hd; cases hv
    rw [hd] at h2
    simp only [Option.map_eq_some_iff] at hx
    obtain ⟨r, hr, rfl⟩ := hx
    exact ⟨r, by simp [convert, h1, h2, semA_run hr w], rel_ofAtom r⟩
  · rename_i hd; cases hv
    rw [hd] at h2
    simp only [Option.map_eq_some_iff] at hx
    obtain ⟨r, hr, rfl⟩ := hx
    exact ⟨r, by simp [convert, h1, h2, semA_run hr w], rel_ofAtom r⟩
  · rename_i hd; cases hx
    cases hv with | s _ t e =>
    rw [hd] at h2
    exact ⟨.string t, by simp [convert, h1, h2], .s _ t e⟩
  · cases hx

/-! #### Parts -/
def fieldOf (i : TI) (n : Nat) : Option Field := match i.desc with | .struct fs => fs[n]? | _ => none
def aField (E : Env) (t : TypeId) (x : AV) (n : Nat) : Option AV :=
  match E.ty t, x with
  | some i, .agg cs => match fieldOf i n with
    | some f => match E.ty f.type with
      | some j => aSub j cs f.offset
      | none => none
    | none => none
  | _, _ => none
theorem aField_ok (ok : E.Ok) {t : TypeId} {x z : AV} {n : Nat} (hx : aField E t x n = some z) {v : Value} (hv : RelV σ A M x v) : ∃ r, (Instr.field t v n).run E.P w = .ok r w ∧ RelV σ A M z r := by
  unfold aField at hx
  split at hx
  case h_2 => cases hx
  rename_i i cs hi
  split at hx
  case h_2 => cases hx
  rename_i f hf
  split at hx
  case h_2 => cases hx
  rename_i j hj
  cases hv with | agg _ vs h1 =>
  obtain ⟨r, r1, r2⟩ := aSub_ok (w := w) ok hj hx h1
  refine ⟨r, ?_, r2⟩
  unfold fieldOf at hf
  split at hf
  case h_2 => cases hf
  rename_i fs hd
  have hu := ok.und w hi
  rw [hd] at hu
  simp [Instr.field, hu, hf, asAgg, r1]

def aIndex (E : Env) (t : TypeId) (x y : AV) : Option AV :=
  match E.ty t, x, y with
  | some i, .agg cs, .i _ n => match i.desc with
    | .array len e => match E.ty e with
      | some j => cond (and (iLe 0 n) (iLt n len)) (aSub j cs (n.toNat * j.size)) none
      | none => none
    | _ => none
  | some i, .s l, .i _ n => match i.desc with
    | .string => cond (iLe 0 n) ((nt l n.toNat).map fun (b : Nat) => AV.i .u8 (b : Int)) none
    | _ => none
  | _, _, _ => none
theorem nb_get (s : ByteArray) (j : Nat) : (nb s)[j]? = (s[j]?).map (·.toNat) := by
  simp only [nb, List.getElem?_map]
  congr 1
  by_cases h : j < s.size
  · rw [getElem?_pos s j h, List.getElem?_eq_getElem (by rw [Array.length_toList]; exact h)]
    rfl
  · rw [getElem?_neg s j h, List.getElem?_eq_none (by rw [Array.length_toList]; exact Nat.le_of_not_lt h)]
theorem aIndex_ok (ok : E.Ok) {t : TypeId} {x y z : AV} (hx : aIndex E t x y = some z) {v u : Value} (hv : RelV σ A M x v) (hu : RelV σ A M y u) : ∃ r, (Instr.index t v u).run E.P w = .ok r w ∧ RelV σ A M z r := by
  unfold aIndex at hx
  simp only [tk_eq, dp_eq, ap_eq, ln_eq, nt_eq, mp_eq, al_eq, st_eq, rpl_eq, eqN_eq, iLe_eq, iLt_eq, iEq_beq, bNot_eq, iAdd_eq, iSub_eq, wr_eq, cond_eq_if, ble_dec, natBeq] at hx
  split at hx
  · rename_i i cs k n hi
    split at hx
    case h_2 => cases hx
    rename_i len e hd
    split at hx
    case h_2 => cases hx
    rename_i j hj
    split at hx
    case isFalse => cases hx
    rename_i hc
    simp only [Bool.and_eq_true, decide_eq_true_eq] at hc
    cases hv with | agg _ vs h1 =>
    cases hu
    obtain ⟨r, r1, r2⟩ := aSub_ok (w := w) ok hj hx h1
    have hu := ok.und w hi
    rw [hd] at hu
    exact ⟨r, by simp [Instr.index, asIntOf, hu, hc, ok.siz w hj, r1], r2⟩
  · rename_i i l k n hi
    split at hx
    case h_2 => cases hx
    rename_i hd
    split at hx
    case isFalse => cases hx
    rename_i hc
    have hc : 0 ≤ n := by simpa using hc
    cases hv with | s _ s e =>
    cases hu
    subst e
    rw [nb_get] at hx
    simp only [Option.map_map, Option.map_eq_some_iff] at hx
    obtain ⟨b, hb, rfl⟩ := hx
    have hu := ok.und w hi
    rw [hd] at hu
    exact ⟨.int .u8 b.toNat, by simp [Instr.index, asIntOf, hu, hc, hb], .i _ _⟩
  · cases hx

def aExtract (x : AV) (n : Nat) : Option AV := match x with | .tup vs => nt vs n | _ => none
theorem aExtract_ok {P : Program} {x z : AV} {n : Nat} (hx : aExtract x n = some z) {v : Value} (hv : RelV σ A M x v) : ∃ r, (Instr.extract v n).run P w = .ok r w ∧ RelV σ A M z r := by
  unfold aExtract at hx
  simp only [tk_eq, dp_eq, ap_eq, ln_eq, nt_eq, mp_eq, al_eq, st_eq, rpl_eq, eqN_eq, iLe_eq, iLt_eq, iEq_beq, bNot_eq, iAdd_eq, iSub_eq, wr_eq, cond_eq_if, ble_dec, natBeq] at hx
  split at hx
  case h_2 => cases hx
  cases hv with | tup _ vs h1 =>
  obtain ⟨r, hr, h2⟩ := h1.get hx
  have : vs[n]? = some r := by simpa using hr
  exact ⟨r, by simp [Instr.extract, this], h2⟩

def aFieldAddr (E : Env) (t : TypeId) (x : AV) (n : Nat) : Option AV :=
  match E.ty t with
  | some i => match fieldOf i n with
    | some f => match E.ty f.type with
      | some j => cond (Nat.beq j.size 0) none (match x with
        | .p b o => some (.p b (o + f.offset))
        | .rp cs => cond (Nat.ble f.offset (ln cs)) (some (.rp (dp f.offset cs))) none
        | _ => none)
      | none => none
    | none => none
  | none => none
theorem rp_drop {cs : List AV} {ad : Addr} {vs : List Value} (hl : RelL σ A M cs vs) (hm : ∀ j v, vs[j]? = some v → M (ad.add j) = some v) (n : Nat) : RelV σ A M (.rp (cs.drop n)) (.pointer (some (ad.add n))) := by
  refine .rp _ _ (vs.drop n) (hl.drop n) (fun j v hv => ?_)
  rw [List.getElem?_drop] at hv
  have := hm _ _ hv
  have e : (ad.add n).add j = ad.add (n + j) := by
    unfold Addr.add
    by_cases h1 : n = 0 <;> by_cases h2 : j = 0 <;> simp [h1, h2, Nat.add_assoc]
  rw [e]; exact this
theorem aFieldAddr_ok (ok : E.Ok) {t : TypeId} {x z : AV} {n : Nat} (hx : aFieldAddr E t x n = some z) {v : Value} (hv : RelV σ A M x v) : ∃ r, (Instr.fieldAt t v n).run E.P w = .ok r w ∧ RelV σ A M z r := by
  unfold aFieldAddr at hx
  simp only [tk_eq, dp_eq, ap_eq, ln_eq, nt_eq, mp_eq, al_eq, st_eq, rpl_eq, eqN_eq, iLe_eq, iLt_eq, iEq_beq, bNot_eq, iAdd_eq, iSub_eq, wr_eq, cond_eq_if, ble_dec, natBeq] at hx
  split at hx
  case h_2 => cases hx
  rename_i i hi
  split at hx
  case h_2 => cases hx
  rename_i f hf
  split at hx
  case h_2 => cases hx
  rename_i j hj
  split at hx
  case isTrue => cases hx
  rename_i hsz
  have hsz : ¬ j.size = 0 := by simpa using hsz
  unfold fieldOf at hf
  split at hf
  case h_2 => cases hf
  rename_i fs hd
  have hu := ok.und w hi
  rw [hd] at hu
  split at hx
  · cases hx
    cases hv with | p b o hA ad ha =>
    refine ⟨.pointer (some (ad.add f.offset)), by simp [Instr.fieldAt, hu, hf, Instr.sureAddr, fieldPlace, ok.siz w hj, hsz], .p _ _ hA _ ?_⟩
    rw [ha, add_at]
    simp [Nat.add_assoc]
  · split at hx
    · cases hx
      cases hv with | rp cs ad vs hl hm =>
      refine ⟨.pointer (some (ad.add f.offset)), by simp [Instr.fieldAt, hu, hf, Instr.sureAddr, fieldPlace, ok.siz w hj, hsz], rp_drop hl hm _⟩
    · cases hx
  · cases hx

def aIndexAddr (E : Env) (t : TypeId) (x y : AV) : Option AV :=
  match E.ty t, y with
  | some i, .i _ n =>
    match i.desc with
    | .array len e => match E.ty e with
      | some j => cond (and (iLe 0 n) (iLt n len)) (match x with
        | .p b o => some (.p b (o + n.toNat * j.size))
        | .rp cs => some (.rp (dp (n.toNat * j.size) cs))
        | _ => none) none
      | none => none
    | .slice e => match E.ty e with
      | some j => match x with
        | .sl b o len c z => cond (and (and (iLe 0 n) (iLt n len)) (Nat.beq z j.size)) (some (.p b (o + n.toNat * j.size))) none
        | .ro cs len z => cond (and (and (iLe 0 n) (iLt n len)) (Nat.beq z j.size)) (some (.rp (dp (n.toNat * j.size) cs))) none
        | _ => none
      | none => none
    | _ => none
  | _, _ => none
theorem aIndexAddr_ok (ok : E.Ok) {t : TypeId} {x y z : AV} (hx : aIndexAddr E t x y = some z) {v u : Value} (hv : RelV σ A M x v) (hu : RelV σ A M y u) : ∃ r, (Instr.indexAt t v u).run E.P w = .ok r w ∧ RelV σ A M z r := by
  unfold aIndexAddr at hx
  simp only [tk_eq, dp_eq, ap_eq, ln_eq, nt_eq, mp_eq, al_eq, st_eq, rpl_eq, eqN_eq, iLe_eq, iLt_eq, iEq_beq, bNot_eq, iAdd_eq, iSub_eq, wr_eq, cond_eq_if, ble_dec, natBeq] at hx
  split at hx
  case h_2 => cases hx
  rename_i i k n hi
  cases hu
  split at hx
  · rename_i len e hd
    have hund := ok.und w hi
    rw [hd] at hund
    split at hx
    case h_2 => cases hx
    rename_i j hj
    split at hx
    case isFalse => cases hx
    rename_i hc
    simp only [Bool.and_eq_true, decide_eq_true_eq] at hc
    split at hx
    · cases hx
      cases hv with | p b o hA ad ha =>
      refine ⟨.pointer (some (ad.add (n.toNat * j.size))), by simp [Instr.indexAt, asIntOf, hund, Instr.sureAddr, hc, ok.siz w hj], .p _ _ hA _ ?_⟩
      rw [ha, add_at]
      simp [Nat.add_assoc]
    · cases hx
      cases hv with | rp cs ad vs hl hm =>
      exact ⟨.pointer (some (ad.add (n.toNat * j.size))), by simp [Instr.indexAt, asIntOf, hund, Instr.sureAddr, hc, ok.siz w hj], rp_drop hl hm _⟩
    · cases hx
  · rename_i e hd
    have hund := ok.und w hi
    rw [hd] at hund
    split at hx
    case h_2 => cases hx
    rename_i j hj
    split at hx
    · split at hx
      case isFalse => cases hx
      rename_i hc
      simp only [Bool.and_eq_true, decide_eq_true_eq] at hc
      cases hx
      cases hv with | sl b o n' c z cap ad hA hn hcc ha hz =>
      refine ⟨.pointer (some (ad.add (n.toNat * j.size))), by simp [Instr.indexAt, asIntOf, hund, hc, ok.siz w hj], .p _ _ hA _ ?_⟩
      rw [ha (by omega), add_at]
      simp [Nat.add_assoc]
    · split at hx
      case isFalse => cases hx
      rename_i hc
      simp only [Bool.and_eq_true, decide_eq_true_eq] at hc
      cases hx
      cases hv with
      | ro cs n' z cap ad vs hl hn h1 hm =>
        exact ⟨.pointer (some (ad.add (n.toNat * j.size))), by simp [Instr.indexAt, asIntOf, hund, hc, ok.siz w hj], rp_drop h1 hm _⟩
      | ro0 => omega
    · cases hx
  · cases hx
end
end
end Go.Proofs.YtfaemheimmndgaaGreatDoor.XI
