/- Lengths, bytes and strings, maps. Part of a verified reckoner of runs: no condition. -/
import Derived.Test.YtfaemheimmndgaaGreatDoorXG
set_option linter.unusedVariables false
set_option linter.unusedSimpArgs false
namespace Go.Proofs.YtfaemheimmndgaaGreatDoor.XI
noncomputable section

section
variable {E : Env} {σ : Nat → Loc} {A : Nat → Prop} {M : Mem} {w : World} {h : H}

/-! #### len, min, max -/
def aLen (E : Env) (h : H) (t : TypeId) (x : AV) : Option AV := match E.ty t with
  | some i => match i.desc, x with
    | .string, .s l => some (.i .i64 (ln l : Int))
    | .array n _, _ => some (.i .i64 (n : Int))
    | .slice _, .sl _ _ n _ _ => some (.i .i64 (n : Int))
    | .slice _, .nils => some (.i .i64 0)
    | .slice _, .ro _ n _ => some (.i .i64 (n : Int))
    | .map _ _, .nilm => some (.i .i64 0)
    | .map _ _, .m b => match h.get b with
      | some (.map es _ _) => some (.i .i64 (ln es : Int))
      | _ => none
    | _, _ => none
  | none => none
theorem RelE.length {xs : List (AV × AV)} {es : List MapEntry} (r : RelE σ A M xs es) : xs.length = es.length := by
  induction r with
  | nil => rfl
  | cons => simp_all
theorem aLen_ok (ok : E.Ok) (r : RelH σ A M w h) {t : TypeId} {x z : AV} (hx : aLen E h t x = some z) {v : Value} (hv : RelV σ A M x v) (ts : Array TypeId) (ht : ts[0]? = some t) (ty : TypeId) : ∃ u, (Builtin.len_ ts ty #[v]).run E.P w = .ok u w ∧ RelV σ A M z u := by
  unfold aLen at hx
  simp only [tk_eq, dp_eq, ap_eq, ln_eq, nt_eq, mp_eq, al_eq, st_eq, rpl_eq, eqN_eq, iLe_eq, iLt_eq, iEq_beq, bNot_eq, iAdd_eq, iSub_eq, wr_eq, cond_eq_if, ble_dec, natBeq] at hx
  split at hx
  case h_2 => cases hx
  rename_i i hi
  have hu := ok.und w hi
  split at hx
  · rename_i hd; cases hx; cases hv with | s _ s e =>
    rw [hd] at hu
    subst e
    exact ⟨.int .i64 s.size, by simp [Builtin.len_, ht, hu, goInt], by rw [nb_length]; exact .i _ _⟩
  · rename_i n e hd; cases hx
    rw [hd] at hu
    exact ⟨.int .i64 n, by cases v <;> simp [Builtin.len_, ht, hu, goInt], .i _ _⟩
  · rename_i hd; cases hx; cases hv
    rw [hd] at hu
    refine ⟨.int .i64 _, ?_, .i _ _⟩
    simp [Builtin.len_, ht, hu, goInt]
  · rename_i hd; cases hx; cases hv
    rw [hd] at hu
    exact ⟨.int .i64 0, by simp [Builtin.len_, ht, hu, goInt], .i _ _⟩
  · rename_i hd; cases hx
    rw [hd] at hu
    cases hv with
    | ro _ _ _ => refine ⟨.int .i64 _, ?_, .i _ _⟩; simp [Builtin.len_, ht, hu, goInt]
    | ro0 => exact ⟨.int .i64 0, by simp [Builtin.len_, ht, hu, goInt], .i _ _⟩
  · rename_i hd; cases hx; cases hv
    rw [hd] at hu
    exact ⟨.int .i64 0, by simp [Builtin.len_, ht, hu, goInt], .i _ _⟩
  · rename_i b hd
    rw [hd] at hu
    split at hx
    case h_2 => cases hx
    rename_i es bs cl hb
    cases hx
    cases hv with | m _ hA rr hr =>
    obtain ⟨en, g1, g2, _⟩ := r.blk b _ hb
    refine ⟨.int .i64 (en.size : Int), ?_, ?_⟩
    · subst hr
      have hg : (getObj (σ b).blk).run E.P w = .ok (.map en cl) w := by simp [getObj, Sem.run, g1]
      simp [Builtin.len_, ht, hu, hg, goInt]
    · rw [g2.length]
      simpa using RelV.i _ _
  · cases hx

def mn2 (isMax : Bool) : AV → AV → Option AV
  | .i k x, .i _ y => some (.i k (cond isMax (cond (iLt x y) y x) (cond (iLt y x) y x)))
  | _, _ => none
theorem min2_ok {P : Program} {x y z : AV} (hx : mn2 false x y = some z) {v u : Value} (hv : RelV σ A M x v) (hu : RelV σ A M y u) : ∃ r, (Builtin.min2 v u).run P w = .ok r w ∧ RelV σ A M z r := by
  unfold mn2 at hx
  simp only [tk_eq, dp_eq, ap_eq, ln_eq, nt_eq, mp_eq, al_eq, st_eq, rpl_eq, eqN_eq, iLe_eq, iLt_eq, iEq_beq, bNot_eq, iAdd_eq, iSub_eq, wr_eq, cond_eq_if, ble_dec, natBeq, decide_eq_true_eq] at hx
  split at hx
  · cases hx; cases hv; cases hu; exact ⟨_, rfl, by simpa using .i _ _⟩
  · cases hx
theorem max2_ok {P : Program} {x y z : AV} (hx : mn2 true x y = some z) {v u : Value} (hv : RelV σ A M x v) (hu : RelV σ A M y u) : ∃ r, (Builtin.max2 v u).run P w = .ok r w ∧ RelV σ A M z r := by
  unfold mn2 at hx
  simp only [tk_eq, dp_eq, ap_eq, ln_eq, nt_eq, mp_eq, al_eq, st_eq, rpl_eq, eqN_eq, iLe_eq, iLt_eq, iEq_beq, bNot_eq, iAdd_eq, iSub_eq, wr_eq, cond_eq_if, ble_dec, natBeq, decide_eq_true_eq] at hx
  split at hx
  · cases hx; cases hv; cases hu; exact ⟨_, rfl, by simpa using .i _ _⟩
  · cases hx
def aMm (isMax : Bool) : AV → List AV → Option AV
  | x, [] => some x
  | x, y :: ys => match mn2 isMax x y with
    | some z => aMm isMax z ys
    | none => none
theorem aMin_ok {P : Program} : ∀ {ys : List AV} {x z : AV}, aMm false x ys = some z → ∀ {v : Value} {us : List Value}, RelV σ A M x v → RelL σ A M ys us → ∃ r, (us.foldlM Builtin.min2 v).run P w = .ok r w ∧ RelV σ A M z r
  | [], x, z, hz, v, us, hv, hu => by cases hu; simp only [aMm, Option.some.injEq] at hz; subst hz; exact ⟨v, rfl, hv⟩
  | y :: ys, x, z, hz, v, us, hv, hu => by
    cases hu with | cons _ u _ us h1 t1 =>
    simp only [aMm] at hz
    split at hz
    · rename_i q hq
      obtain ⟨r, r1, r2⟩ := min2_ok (P := P) (w := w) hq hv h1
      obtain ⟨r', s1, s2⟩ := aMin_ok (P := P) hz r2 t1
      exact ⟨r', by simp [List.foldlM_cons, r1, s1], s2⟩
    · cases hz
theorem aMax_ok {P : Program} : ∀ {ys : List AV} {x z : AV}, aMm true x ys = some z → ∀ {v : Value} {us : List Value}, RelV σ A M x v → RelL σ A M ys us → ∃ r, (us.foldlM Builtin.max2 v).run P w = .ok r w ∧ RelV σ A M z r
  | [], x, z, hz, v, us, hv, hu => by cases hu; simp only [aMm, Option.some.injEq] at hz; subst hz; exact ⟨v, rfl, hv⟩
  | y :: ys, x, z, hz, v, us, hv, hu => by
    cases hu with | cons _ u _ us h1 t1 =>
    simp only [aMm] at hz
    split at hz
    · rename_i q hq
      obtain ⟨r, r1, r2⟩ := max2_ok (P := P) (w := w) hq hv h1
      obtain ⟨r', s1, s2⟩ := aMax_ok (P := P) hz r2 t1
      exact ⟨r', by simp [List.foldlM_cons, r1, s1], s2⟩
    · cases hz

/-! #### Strings and bytes -/
def bytesL0 : List AV → Option (List Nat)
  | [] => some []
  | .i .u8 n :: xs => (bytesL0 xs).map (n.toNat % 256 :: ·)
  | _ :: _ => none
def isU8 (x : AV) : Bool := match x with | .i .u8 _ => true | _ => false
def toU8 (x : AV) : Nat := match x with | .i .u8 n => n.toNat % 256 | _ => 0
def bytesL (l : List AV) : Option (List Nat) := cond (al isU8 l) (some (mp toU8 l)) none
theorem bytesL_eq : ∀ l, bytesL l = bytesL0 l
  | [] => rfl
  | x :: xs => by
    have ih := bytesL_eq xs
    have e : bytesL (x :: xs) = cond (alS (isU8 x) (al isU8 xs)) (some (toU8 x :: mp toU8 xs)) none := rfl
    unfold bytesL at ih
    rw [e]
    cases x <;> (try rfl)
    rename_i k n
    cases k <;> (try rfl)
    show cond (al isU8 xs) (some (n.toNat % 256 :: mp toU8 xs)) none = (bytesL0 xs).map (n.toNat % 256 :: ·)
    rw [← ih]
    cases al isU8 xs <;> rfl
theorem bytesL_ok : ∀ {xs : List AV} {l : List Nat} {vs : List Value}, bytesL xs = some l → RelL σ A M xs vs → ∃ ns : List Int, vs = ns.map (Value.int .u8) ∧ nb ⟨(ns.map fun n => UInt8.ofNat n.toNat).toArray⟩ = l
  | [], l, vs, hl, hr => by cases hr; rw [bytesL_eq] at hl; simp only [bytesL0, Option.some.injEq] at hl; subst hl; exact ⟨[], rfl, rfl⟩
  | x :: xs, l, vs, hl, hr => by
    cases hr with | cons _ v _ vs h1 t1 =>
    rw [bytesL_eq] at hl
    unfold bytesL0 at hl
    split at hl
    · rename_i e; cases e
    · rename_i n xs' e
      cases e
      simp only [Option.map_eq_some_iff] at hl
      obtain ⟨l', h2, rfl⟩ := hl
      obtain ⟨ns, rfl, hns⟩ := bytesL_ok ((bytesL_eq _).trans h2) t1
      cases h1
      refine ⟨n :: ns, rfl, ?_⟩
      simp only [nb, List.map_cons] at hns ⊢
      rw [← hns]
      simp
    · cases hl

def aToStr (E : Env) (h : H) (src dst : TypeId) (x : AV) : Option AV := match E.ty src, E.ty dst with
  | some i, some j => match i.desc, j.desc with
    | .slice e, .string => match E.ty e with
      | some k => match k.desc with
        | .int .u8 => match aSrc h 1 x, isS x with
          | some (xs, _), false => (bytesL xs).map .s
          | _, _ => none
        | _ => none
      | none => none
    | _, _ => none
  | _, _ => none
where isS : AV → Bool | .s _ => true | _ => false

theorem slice_of {z : Nat} {x : AV} {xs : List AV} {n : Nat} (hx : aSrc h z x = some (xs, n)) (hs : aToStr.isS x = false) {v : Value} (hv : RelV σ A M x v) : ∃ a l c, v = .slice a l c := by
  cases hv <;> simp [aSrc] at hx <;> first | exact ⟨_, _, _, rfl⟩ | (simp [aToStr.isS] at hs)

theorem aToStr_ok (ok : E.Ok) (r : RelH σ A M w h) {src dst : TypeId} {x z : AV} (hx : aToStr E h src dst x = some z) {v : Value} (hv : RelV σ A M x v) : ∃ u, (convert src dst v).run E.P w = .ok u w ∧ RelV σ A M z u := by
  unfold aToStr at hx
  split at hx
  case h_2 => cases hx
  rename_i i j hi hj
  split at hx
  case h_2 => cases hx
  rename_i e hd1 hd2
  split at hx
  case h_2 => cases hx
  rename_i k hk
  split at hx
  case h_2 => cases hx
  rename_i hd3
  split at hx
  case h_2 => cases hx
  rename_i xs n hsrc hs
  simp only [Option.map_eq_some_iff] at hx
  obtain ⟨l, hl, rfl⟩ := hx
  obtain ⟨h1, _⟩ := ok.ty src i hi
  obtain ⟨h2, _⟩ := ok.ty dst j hj
  obtain ⟨h3, _⟩ := ok.ty e k hk
  rw [hd1] at h1
  rw [hd2] at h2
  rw [hd3] at h3
  obtain ⟨hlen, vs, g1, g2, g3⟩ := aSrc_ok (P := E.P) r hsrc hv
  obtain ⟨ns, hns1, hns2⟩ := bytesL_ok hl g1
  obtain ⟨a, sl, sc, rfl⟩ := slice_of hsrc hs hv
  rw [run_convert_bytes_string w src dst e a sl sc h1 h3 h2]
  have hn : sl = n := by
    have : (Builtin.lenOf (.slice a sl sc)) = (pure sl : Sem Nat) := rfl
    rw [this] at hlen
    have h4 : (Sem.pure sl : Sem Nat) = Sem.pure n := hlen
    cases h4
    rfl
  have hlv := g1.length
  have hf := g3 n (Nat.le_refl _)
  rw [List.take_of_length_le (by simp at hlv ⊢; omega)] at hf
  cases a with
  | none =>
    simp only [Builtin.firstCells, Sem.run_pure] at hf
    injection hf with e1
    have : vs.toList = [] := by
      have := congrArg Array.toList e1
      simpa using this.symm
    rw [this] at hns1
    have hns : ns = [] := by
      cases ns with
      | nil => rfl
      | cons q qs => simp at hns1
    subst hns
    exact ⟨.string .empty, rfl, .s _ _ hns2⟩
  | some ad =>
    have hld : (loadCells ad sl).run E.P w = .ok (ns.map (Value.int .u8)).toArray w := by
      simp only [Builtin.firstCells, Nat.mul_one] at hf
      rw [hn, hf]
      simp [hns1]
    rw [run_bytesToString w ad sl sc ns hld, foldl_push_bytes]
    refine ⟨_, rfl, .s _ _ ?_⟩
    rw [← hns2]
    simp [ByteArray.empty, ByteArray.emptyWithCapacity, nb] <;> rfl

def aToBytes (E : Env) (h : H) (src dst : TypeId) (x : AV) : Option (AV × H) := match E.ty src, E.ty dst, x with
  | some i, some j, .s l => match j.desc with
    | .slice e => match E.ty e with
      | some k => match k.desc with
        | .int .u8 => some (.sl h.next 0 (ln l) (ln l) 1, h.push (.cells (mp (fun (b : Nat) => AV.i .u8 (b : Int)) l)))
        | _ => none
      | none => none
    | _ => none
  | _, _, _ => none
theorem aToBytes_ok (ok : E.Ok) (r : RelH σ A M w h) {src dst : TypeId} {x z : AV} {h' : H} (hx : aToBytes E h src dst x = some (z, h')) {v : Value} (hv : RelV σ A M x v) : Made E σ A M w h (convert src dst v) z h' := by
  unfold aToBytes at hx
  simp only [tk_eq, dp_eq, ap_eq, ln_eq, nt_eq, mp_eq, al_eq, st_eq, rpl_eq, eqN_eq, iLe_eq, iLt_eq, iEq_beq, bNot_eq, iAdd_eq, iSub_eq, wr_eq, cond_eq_if, ble_dec, natBeq] at hx
  split at hx
  case h_2 => cases hx
  rename_i i j l hi hj
  split at hx
  case h_2 => cases hx
  rename_i e hd
  split at hx
  case h_2 => cases hx
  rename_i k hk
  split at hx
  case h_2 => cases hx
  rename_i hd3
  cases hx
  cases hv with | s _ s e' =>
  subst e'
  obtain ⟨h1, _⟩ := ok.ty src i hi
  obtain ⟨h2, _⟩ := ok.ty dst j hj
  obtain ⟨h3, _⟩ := ok.ty e k hk
  rw [hd] at h2
  rw [hd3] at h3
  have hrun := Lib.run_convert_string_bytes (P := E.P) w src dst e s h1 h2 h3
  have hnew := Lib.bytesWorld_at_new w e s
  have hsz := Lib.bytesWorld_size w e s
  have hcs : (Lib.bytesCells w e s).size = grownCap w s.size 0 e := by
    have := grownCap_ge' w s.size 0 e
    have hs : s.data.size = s.size := rfl
    simp [Lib.bytesCells, hs]
    omega
  have hge := grownCap_ge' w s.size 0 e
  have hag := upd_agree r ⟨w.heap.size, 0, (Lib.bytesCells w e s).size⟩
  -- the same block without the mark
  have key : Step σ A w h (upd σ h.next ⟨w.heap.size, 0, (Lib.bytesCells w e s).size⟩) (fun b => A b ∨ b = h.next) (Lib.bytesWorld w e s) (h.push (.cells ((nb s).map fun (b : Nat) => AV.i .u8 (b : Int)))) ∧
      RelH (upd σ h.next ⟨w.heap.size, 0, (Lib.bytesCells w e s).size⟩) (fun b => A b ∨ b = h.next) M (Lib.bytesWorld w e s) (h.push (.cells ((nb s).map fun (b : Nat) => AV.i .u8 (b : Int)))) := by
    have hnb := rel_bytes (σ := σ) (A := A) (M := M) s
    obtain ⟨p1, p2⟩ := push_prefix r ((nb s).map fun (b : Nat) => AV.i .u8 (b : Int)) (Lib.bytesCells w e s) e _ hnb (fun q u hq => by
      have hlt : q < s.size := by
        have := (List.getElem?_eq_some_iff.1 hq).1
        simpa using this
      have hq' : (s.data.map fun b => Value.int .u8 b.toNat)[q]? = some u := by rw [← Array.getElem?_toList]; exact hq
      unfold Lib.bytesCells
      rw [Array.getElem?_append_left (by simpa using hlt)]
      exact hq')
    have hold : ∀ q, q < w.heap.size → (Lib.bytesWorld w e s).heap[q]? = (w.alloc (.cells (Lib.bytesCells w e s) e)).heap[q]? := fun q hq => by
      rw [Lib.bytesWorld_at_old w e s q hq, heap_alloc_old w _ q hq]
    refine ⟨⟨p1.agree, p1.fresh, rfl, rfl, rfl, by rw [hsz]; omega, fun q hq ho => by rw [hold q hq]; exact p1.keep q hq ho, p1.own, p1.next, p1.wb, p1.low, p1.st, p1.mod, p1.only⟩, ⟨p2.bound, p2.dom, fun b x hb => ?_, p2.inj, fun ad v hM => ⟨?_, (p2.stay ad v hM).2⟩, p2.wb, p2.pos⟩⟩
    · by_cases hbn : b = h.next
      · subst hbn
        have hx := p2.blk _ x hb
        rw [H.get_push, if_pos rfl] at hb
        cases hb
        obtain ⟨c, ec, fr, b1, b2, b3, b4⟩ := hx
        rw [upd_same] at b1 b2 b4
        have e1 := heap_alloc_new w (.cells (Lib.bytesCells w e s) e)
        rw [e1] at b1
        cases b1
        refine ⟨_, _, _, by rw [upd_same]; exact hnew, by rw [upd_same], fun q hq => ?_, by rw [upd_same]; exact b4⟩
        simp
        intro h1
        omega
      · refine RelB.move (fun b a => ⟨a, rfl⟩) (p2.dom b x hb) (fun lx => ?_) (p2.blk b x hb)
        have hb' : h.get b = some x := by rw [H.get_push, if_neg hbn] at hb; exact hb
        rw [upd_ne σ _ hbn]
        exact hold _ ((r.blk b x hb').lt lx)
    · have := (r.stay ad v hM).1
      have hlt := World.block_lt_of_cell? w ad this
      rw [World.cell?_of_block (w := w) (Lib.bytesWorld_at_old w e s _ hlt)]
      exact this
  refine ⟨_, _, hrun, _, _, key.1, ?_, key.2⟩
  rw [nb_length]
  exact rel_sl_new (l := ⟨w.heap.size, 0, (Lib.bytesCells w e s).size⟩) (.inr rfl) (upd_same _ _ _) rfl (Nat.le_refl _) hge (by simp [hcs])

/-! #### Maps -/
def aMakeMap (h : H) : AV × H := (.m h.next, h.push (.map [] [] 0))
theorem aMakeMap_ok (r : RelH σ A M w h) {t : TypeId} {hint : Option Value} (hh : hint = none) : Made E σ A M w h (Instr.makeMap t hint) (aMakeMap h).1 (aMakeMap h).2 := by
  subst hh
  obtain ⟨p1, p2⟩ := push_ok r (.map #[] 0) (.map [] [] 0) ⟨w.heap.size, 0, 0⟩ (fun _ => rfl) ⟨#[], by rw [upd_same]; exact heap_alloc_new w _, .nil, rfl⟩
  refine ⟨.map (some w.heap.size), _, ?_, _, _, p1, .m _ (.inr rfl) _ (by rw [upd_same]), p2⟩
  simp [Instr.makeMap]

/-- Where a key stands: strings and numbers alone. -/
def keyEq : AV → AV → Option Bool
  | .s a, .s b => some (eqN a b)
  | .i k a, .i k' b => if k = k' then some (iEq a b) else none
  | .b a, .b b => some (a == b)
  | _, _ => none
def findA (k : AV) : List (AV × AV) → Nat → Option (Option (Nat × AV))
  | [], _ => some none
  | (k', x) :: es, n => match keyEq k k' with
    | some true => some (some (n, x))
    | some false => findA k es (n + 1)
    | none => none
def keyDesc : TypeDesc → AV → Bool
  | .string, .s _ => true
  | .int _, .i _ _ => true
  | .bool, .b _ => true
  | _, _ => false

/-- An array of numbers for a key. -/
def arrI (E : Env) (d : TypeDesc) (k : AV) : Bool := match d, k with
  | .array len e, .agg cs => (match E.ty e with
    | some j => (match j.desc with | .int _ => cond (Nat.beq j.size 1) (Nat.beq (ln cs) len) false | _ => false)
    | none => false)
  | _, _ => false
def keyOk (E : Env) (d : TypeDesc) (k : AV) : Bool := cond (keyDesc d k) true (arrI E d k)
theorem keyOk_cases {E : Env} {d : TypeDesc} {k : AV} (h : keyOk E d k = true) : keyDesc d k = true ∨ (arrI E d k = true ∧ ∀ y, keyEq k y = none) := by
  unfold keyOk at h
  rw [cond_eq_if] at h
  split at h
  · left; assumption
  · right
    refine ⟨h, fun y => ?_⟩
    unfold arrI at h
    split at h
    · rfl
    · cases h
theorem keyEq_ok {d : TypeDesc} {x y : AV} {r : Bool} (hd : keyDesc d x = true) (h : keyEq x y = some r) {v u : Value} (hv : RelV σ A M x v) (hu : RelV σ A M y u) : Instr.sameNow d v u = some r := by
  unfold keyEq at h
  simp only [tk_eq, dp_eq, ap_eq, ln_eq, nt_eq, mp_eq, al_eq, st_eq, rpl_eq, eqN_eq, iLe_eq, iLt_eq, iEq_beq, bNot_eq, iAdd_eq, iSub_eq, wr_eq, cond_eq_if, ble_dec, natBeq] at h
  split at h
  · cases hv with | s _ s e1 => cases hu with | s _ s' e2 =>
    cases d <;> simp [keyDesc] at hd
    cases h
    subst e1 e2
    have : (nb s == nb s') = (s == s') := by rw [nb_beq, beq_toListBytes]
    simp only [Instr.sameNow, this]
  · split at h
    · rename_i e
      subst e
      cases hv; cases hu
      cases d <;> simp [keyDesc] at hd
      cases h
      simp [Instr.sameNow]
    · cases h
  · cases hv; cases hu
    cases d <;> simp [keyDesc] at hd
    cases h
    simp [Instr.sameNow]
  · cases h

theorem findA_ok {E : Env} {d : TypeDesc} {k : AV} {kv : Value} (hd0 : keyOk E d k = true) (hk : RelV σ A M k kv) {xs : List (AV × AV)} {es : List MapEntry} (hr : RelE σ A M xs es) : ∀ {n : Nat} {r : Option (Nat × AV)}, findA k xs n = some r →
    ∃ r', Instr.findNow d kv es n = some r' ∧ (r = none → r' = none) ∧ ∀ m x, r = some (m, x) → ∃ v, r' = some (m, v) ∧ RelV σ A M x v ∧ n ≤ m ∧ m - n < es.length := by
  induction hr with
  | nil => intro n r h; simp only [findA, Option.some.injEq] at h; subst h; exact ⟨none, rfl, fun _ => rfl, fun _ _ e => by cases e⟩
  | cons k' x e xs es hk' hx t ih =>
    intro n r h
    simp only [findA] at h
    have hd : keyDesc d k = true := (keyOk_cases hd0).resolve_right fun ⟨_, hn⟩ => by rw [hn k'] at h; cases h
    split at h
    · rename_i hq
      cases h
      refine ⟨some (n, e.val), by simp [Instr.findNow, keyEq_ok hd hq hk hk'], fun e' => (by cases e'), fun m y e' => ?_⟩
      cases e'
      exact ⟨_, rfl, hx, Nat.le_refl _, by simp⟩
    · rename_i hq
      obtain ⟨r', h1, h2, h3⟩ := ih h
      refine ⟨r', by simp [Instr.findNow, keyEq_ok hd hq hk hk', h1], h2, fun m y e' => ?_⟩
      obtain ⟨v, a1, a2, a3, a4⟩ := h3 m y e'
      exact ⟨v, a1, a2, by omega, by simp; omega⟩
    · cases h

def aMap (h : H) : AV → Option (List (AV × AV))
  | .nilm => some []
  | .m b => match h.get b with
    | some (.map es _ _) => some es
    | _ => none
  | _ => none
def aLookup (E : Env) (h : H) (t : TypeId) (x k : AV) (ok : Bool) : Option AV := match E.ty t with
  | some i => match i.desc with
    | .map kt et => match E.ty kt, E.ty et, aMap h x with
      | some ki, some ei, some es => if keyOk E ki.desc k then (match findA k es 0 with
        | some (some (_, y)) => some (if ok then .tup [y, .b true] else y)
        | some none => some (if ok then .tup [ei.zv, .b false] else ei.zv)
        | none => none) else none
      | _, _, _ => none
    | _ => none
  | none => none
theorem checkKey_ok (ok : E.Ok) {kt : TypeId} {ki : TI} (hk : E.ty kt = some ki) {k : AV} (hd : keyDesc ki.desc k = true) {v : Value} (hv : RelV σ A M k v) (e : Bool) : (Instr.checkKey e 10000 kt v).run E.P w = .ok () w := by
  have hu := ok.und w hk
  show (Instr.checkKey e (9999 + 1) kt v).run E.P w = .ok () w
  generalize (9999 : Nat) = n
  cases hdd : ki.desc <;> rw [hdd] at hd hu <;> cases k <;> simp [keyDesc] at hd <;> cases hv <;> simp [Instr.checkKey, hu]
theorem forIn_pure {P : Program} {β : Type} (l : List β) (f : β → Sem Unit) (h : ∀ x ∈ l, (f x).run P w = .ok () w) : (forIn l PUnit.unit fun x r => (do f x; pure (ForInStep.yield PUnit.unit) : Sem (ForInStep PUnit))).run P w = .ok PUnit.unit w := by
  induction l with
  | nil => simp
  | cons x xs ih =>
    have h1 := h x (by simp)
    have h2 := ih fun y hy => h y (by simp [hy])
    simp only [List.forIn_cons, Sem.run_bind, h1, Result.andThen_ok, Sem.run_pure]
    exact h2
theorem checkArr_ok (ok : E.Ok) {kt : TypeId} {ki : TI} (hk : E.ty kt = some ki) {k : AV} (hd : arrI E ki.desc k = true) {v : Value} (hv : RelV σ A M k v) (e : Bool) : (Instr.checkKey e 10000 kt v).run E.P w = .ok () w := by
  have hu := ok.und w hk
  unfold arrI at hd
  split at hd
  case h_2 => cases hd
  rename_i len el cs hdd
  rw [hdd] at hu
  split at hd
  case h_2 => cases hd
  rename_i j hj
  have hje := ok.und w hj
  split at hd
  case h_2 => cases hd
  rename_i kk hkk
  rw [hkk] at hje
  rw [cond_eq_if, natBeq, natBeq, ln_eq] at hd
  split at hd
  case isFalse => cases hd
  rename_i hs
  have hs := of_decide_eq_true hs
  have hl := of_decide_eq_true hd
  cases hv with | agg _ vs hr =>
  have hagg : j.isAgg = false := by unfold TI.isAgg; rw [hkk]
  have one : ∀ i ∈ List.range' 0 len 1, ((do Instr.checkKey e 9999 el (← part el vs (i * (← sizeOf el))) : Sem Unit)).run E.P w = .ok () w := by
    intro i hi
    have hi : i < len := by simpa using hi
    obtain ⟨u, h1, _⟩ := aSub_ok (w := w) ok hj (off := i * 1) (cs := cs) (x := cs[i]'(by omega)) (by unfold aSub; rw [hagg, nt_eq]; simp [hl, hi]) hr
    simp only [Sem.run_bind, ok.siz w hj, hs, Result.andThen_ok, h1]
    show (Instr.checkKey e (9998 + 1) el u).run E.P w = _
    generalize (9998 : Nat) = q
    rw [Instr.checkKey]
    simp only [Sem.run_bind, hje, Result.andThen_ok, Sem.run_pure]
  show (Instr.checkKey e (9999 + 1) kt (.agg vs)).run E.P w = .ok () w
  rw [Instr.checkKey]
  simp only [Sem.run_bind, hu, Result.andThen_ok]
  have := forIn_pure (P := E.P) (w := w) _ _ one
  have this : (forIn (List.range' 0 len) PUnit.unit fun x r => do
        let a ← sizeOf el
        let a ← part el vs (x * a)
        (fun a => ForInStep.yield PUnit.unit) <$> Instr.checkKey e 9999 el a).run E.P w = .ok PUnit.unit w := by simpa using this
  simp [Std.Legacy.Range.forIn_eq_forIn_range', Std.Legacy.Range.size, this]
theorem checkKeyO_ok (ok : E.Ok) {kt : TypeId} {ki : TI} (hk : E.ty kt = some ki) {k : AV} (hd : keyOk E ki.desc k = true) {v : Value} (hv : RelV σ A M k v) (e : Bool) : (Instr.checkKey e 10000 kt v).run E.P w = .ok () w := by
  rcases keyOk_cases hd with h | ⟨h, _⟩
  · exact checkKey_ok ok hk h hv e
  · exact checkArr_ok ok hk h hv e
theorem aMap_ok (r : RelH σ A M w h) {x : AV} {es : List (AV × AV)} (hx : aMap h x = some es) {v : Value} (hv : RelV σ A M x v) :
    (v = .map none ∧ es = []) ∨ ∃ b entries clock, x = .m b ∧ v = .map (some (σ b).blk) ∧ (∃ bs, h.get b = some (.map es bs clock)) ∧ w.heap[(σ b).blk]? = some (.map entries clock) ∧ RelE σ A M es entries.toList := by
  unfold aMap at hx
  split at hx
  · cases hv; cases hx; exact .inl ⟨rfl, rfl⟩
  · rename_i b
    split at hx
    case h_2 => cases hx
    rename_i es' bs ck hb
    cases hx
    cases hv with | m _ hA rr hr =>
    subst hr
    obtain ⟨en, g1, g2, _⟩ := r.blk b _ hb
    exact .inr ⟨b, en, ck, rfl, rfl, ⟨bs, hb⟩, g1, g2⟩
  · cases hx
theorem aLookup_ok (ok : E.Ok) (r : RelH σ A M w h) {t : TypeId} {x k z : AV} {c : Bool} (hx : aLookup E h t x k c = some z) {v u : Value} (hv : RelV σ A M x v) (hu : RelV σ A M k u) : ∃ q, (Instr.lookup t v u c).run E.P w = .ok q w ∧ RelV σ A M z q := by
  unfold aLookup at hx
  split at hx
  case h_2 => cases hx
  rename_i i hi
  have hund := ok.und w hi
  split at hx
  case h_2 => cases hx
  rename_i kt et hd
  rw [hd] at hund
  split at hx
  case h_2 => cases hx
  rename_i ki ei es hki hei hes
  split at hx
  case isFalse => cases hx
  rename_i hkd
  have hcheck := fun e => checkKeyO_ok (w := w) ok hki hkd hu e
  have hki' := ok.und w hki
  have hentries : ∃ entries : Array MapEntry, RelE σ A M es entries.toList ∧ ((v = .map none ∧ entries = #[]) ∨ ∃ r cl, v = .map (some r) ∧ (getObj r).run E.P w = .ok (.map entries cl) w) := by
    rcases aMap_ok r hes hv with ⟨rfl, rfl⟩ | ⟨b, en, cl, rfl, rfl, hb, g1, g2⟩
    · exact ⟨#[], .nil, .inl ⟨rfl, rfl⟩⟩
    · exact ⟨en, g2, .inr ⟨_, cl, rfl, by simp [getObj, Sem.run, g1]⟩⟩
  obtain ⟨entries, g2, g3⟩ := hentries
  have hrun : ∀ (r' : Option (Nat × Value)) (q : Value), Instr.findNow ki.desc u entries.toList 0 = some r' → (match r' with | some (_, v) => q = (if c then .tuple #[v, .bool true] else v) | none => q = (if c then .tuple #[ei.zero, .bool false] else ei.zero)) → (Instr.lookup t v u c).run E.P w = .ok q w := by
    intro r' q hf hq
    rcases g3 with ⟨rfl, rfl⟩ | ⟨rr, cl, rfl, hg⟩
    · cases r' with
      | none => simp only [] at hq; subst hq; simp at hf; simp [Instr.lookup, hund, hcheck, Instr.findKey, hki', hf, ok.zer w hei]
      | some p => obtain ⟨n, y⟩ := p; simp [Instr.findNow] at hf
    · cases r' with
      | none => simp only [] at hq; subst hq; simp [Instr.lookup, hund, hg, hcheck, Instr.findKey, hki', hf, ok.zer w hei]
      | some p => obtain ⟨n, y⟩ := p; simp only [] at hq; subst hq; simp [Instr.lookup, hund, hg, hcheck, Instr.findKey, hki', hf]
  split at hx
  · rename_i n y hf
    cases hx
    obtain ⟨r', h1, _, h3⟩ := findA_ok hkd hu g2 hf
    obtain ⟨yv, e1, e2, _⟩ := h3 _ _ rfl
    subst e1
    refine ⟨_, hrun _ _ h1 rfl, ?_⟩
    cases c
    · exact e2
    · exact .tup _ _ (.cons _ _ _ _ e2 (.cons _ _ _ _ (.b true) .nil))
  · rename_i hf
    cases hx
    obtain ⟨r', h1, h2, _⟩ := findA_ok hkd hu g2 hf
    have := h2 rfl
    subst this
    refine ⟨_, hrun _ _ h1 rfl, ?_⟩
    cases c
    · exact rel_ofV _
    · exact .tup _ _ (.cons _ _ _ _ (rel_ofV _) (.cons _ _ _ _ (.b false) .nil))
  · cases hx

def aUpdate (E : Env) (h : H) (t : TypeId) (x k y : AV) : Option H := match E.ty t, x with
  | some i, .m b => match i.desc with
    | .map kt et => match E.ty kt, h.get b with
      | some ki, some (.map es bs ck) => if keyOk E ki.desc k then (match findA k es 0 with
        | some (some (n, _)) => h.write b (.map (st es n (k, y)) bs ck)
        | some none => h.write b (.map (ap es [(k, y)]) (ap bs [ck]) (Nat.succ ck))
        | none => none) else none
      | _, _ => none
    | _ => none
  | _, _ => none
theorem RelE.snoc {xs : List (AV × AV)} {es : List MapEntry} (r : RelE σ A M xs es) {k x : AV} {e : MapEntry} (hk : RelV σ A M k e.key) (hx : RelV σ A M x e.val) : RelE σ A M (xs ++ [(k, x)]) (es ++ [e]) := by
  induction r with
  | nil => exact .cons _ _ _ _ _ hk hx .nil
  | cons k' x' e' xs es h1 h2 t ih => exact .cons _ _ _ _ _ h1 h2 ih
theorem RelE.set {xs : List (AV × AV)} {es : List MapEntry} (r : RelE σ A M xs es) {k x : AV} (f : MapEntry → MapEntry) (hk : ∀ e, RelV σ A M k (f e).key) (hx : ∀ e, RelV σ A M x (f e).val) : ∀ n, RelE σ A M (xs.set n (k, x)) (es.modify n f) := by
  induction r with
  | nil => intro n; simpa using RelE.nil
  | cons k' x' e' xs es h1 h2 t ih =>
    intro n
    cases n with
    | zero => exact .cons _ _ _ _ _ (hk _) (hx _) t
    | succ n => exact .cons _ _ _ _ _ h1 h2 (ih n)
theorem findA_key {k : AV} : ∀ {xs : List (AV × AV)} {n m : Nat} {y : AV}, findA k xs n = some (some (m, y)) → ∃ k' y', n ≤ m ∧ xs[m - n]? = some (k', y') ∧ keyEq k k' = some true
  | [], n, m, y, h => by simp [findA] at h
  | (k', x) :: xs, n, m, y, h => by
    simp only [findA] at h
    split at h
    · rename_i hq
      cases h
      exact ⟨k', x, Nat.le_refl _, by simp, hq⟩
    · obtain ⟨k2, y2, a1, a2, a3⟩ := findA_key h
      refine ⟨k2, y2, by omega, ?_, a3⟩
      have : m - n = (m - (n + 1)) + 1 := by omega
      rw [this]
      simpa using a2
    · cases h
theorem RelE.at {xs : List (AV × AV)} {es : List MapEntry} (r : RelE σ A M xs es) : ∀ {n : Nat} {k x : AV}, xs[n]? = some (k, x) → ∃ e, es[n]? = some e ∧ RelV σ A M k e.key := by
  induction r with
  | nil => intro n k x h; simp at h
  | cons k' x' e' xs es h1 h2 t ih =>
    intro n k x h
    cases n with
    | zero => simp at h; obtain ⟨rfl, rfl⟩ := h; exact ⟨e', rfl, h1⟩
    | succ n => simpa using ih (by simpa using h)

theorem sameBits_of {k k' : AV} (hq : keyEq k k' = some true) {v u : Value} (hv : RelV σ A M k v) (hu : RelV σ A M k' u) : Instr.sameBits 10000 u v = true := by
  unfold keyEq at hq
  simp only [tk_eq, dp_eq, ap_eq, ln_eq, nt_eq, mp_eq, al_eq, st_eq, rpl_eq, eqN_eq, iLe_eq, iLt_eq, iEq_beq, bNot_eq, iAdd_eq, iSub_eq, wr_eq, cond_eq_if, ble_dec, natBeq] at hq
  split at hq
  · cases hv with | s _ s e1 => cases hu with | s _ s' e2 =>
    simp only [Option.some.injEq, beq_iff_eq] at hq
    have : s = s' := nb_inj (by rw [e1, e2, hq])
    subst this
    simp only [Instr.sameBits, beq_toListBytes]
    simp
  · split at hq
    · rename_i e; subst e
      cases hv; cases hu
      simp only [Option.some.injEq, beq_iff_eq] at hq
      subst hq
      simp [Instr.sameBits]
    · cases hq
  · cases hv; cases hu
    simp only [Option.some.injEq, beq_iff_eq] at hq
    subst hq
    simp [Instr.sameBits]
  · cases hq

theorem born_modify : ∀ (es : List MapEntry) (n : Nat) (u q : Value), (es.modify n fun e => { e with key := u, val := q }).map (·.born) = es.map (·.born)
  | [], n, u, q => by simp
  | e :: es, 0, u, q => by simp
  | e :: es, n + 1, u, q => by simp [born_modify es n u q]

theorem aUpdate_ok (ok : E.Ok) (r : RelH σ A M w h) {t : TypeId} {x k y : AV} {h' : H} (hx : aUpdate E h t x k y = some h') {v u q : Value} (hv : RelV σ A M x v) (hu : RelV σ A M k u) (hq : RelV σ A M y q) :
    ∃ w', (Instr.mapUpdate t v u q).run E.P w = .ok () w' ∧ Step σ A w h σ A w' h' ∧ RelH σ A M w' h' := by
  unfold aUpdate at hx
  simp only [tk_eq, dp_eq, ap_eq, ln_eq, nt_eq, mp_eq, al_eq, st_eq, rpl_eq, eqN_eq, iLe_eq, iLt_eq, iEq_beq, bNot_eq, iAdd_eq, iSub_eq, wr_eq, cond_eq_if, ble_dec, natBeq] at hx
  split at hx
  case h_2 => cases hx
  rename_i i b hi
  have hund := ok.und w hi
  split at hx
  case h_2 => cases hx
  rename_i kt et hd
  rw [hd] at hund
  split at hx
  case h_2 => cases hx
  rename_i ki es bs cl hki hb
  split at hx
  case isFalse => cases hx
  rename_i hkd
  have hcheck := checkKeyO_ok (w := w) ok hki hkd hu false
  have hki' := ok.und w hki
  cases hv with | m _ hA rr hr =>
  subst hr
  obtain ⟨en, g1, g2, g3⟩ := r.blk b _ hb
  have hg : (getObj (σ b).blk).run E.P w = .ok (.map en cl) w := by simp [getObj, Sem.run, g1]
  have hlt : (σ b).blk < w.heap.size := (Array.getElem?_eq_some_iff.1 g1).1
  have hset : ∀ o, (setObj (σ b).blk o).run E.P w = .ok () (World.setBlk w (σ b).blk o) := fun o => by simp [setObj, Sem.run, g1, World.setBlk]
  split at hx
  · rename_i n y0 hf
    obtain ⟨r', h1, _, h3⟩ := findA_ok hkd hu g2 hf
    obtain ⟨yv, e1, e2, _, _⟩ := h3 _ _ rfl
    subst e1
    obtain ⟨k', y', _, hat, hqk⟩ := findA_key hf
    simp only [Nat.sub_zero] at hat
    obtain ⟨e0, he0, hke⟩ := g2.at hat
    have he0' : en[n]? = some e0 := by simpa using he0
    have hstay : (Instr.keyThatStays (((en[n]?).map (·.key)).getD u) u).run E.P w = .ok u w := by
      rw [he0']
      simp [Instr.keyThatStays, sameBits_of hqk hu hke]
    refine ⟨World.setBlk w (σ b).blk (.map (en.modify n fun e => { e with key := u, val := q }) cl), ?_, ?_⟩
    · simp [Instr.mapUpdate, hund, hg, hcheck, Instr.findKey, hki', h1, hstay, hset]
    · refine write_ok r hb rfl hx rfl rfl rfl (by simp [World.setBlk]) (fun j hj => setBlk_ne w _ j _ hj) ⟨_, setBlk_same w _ _ hlt, ?_, ?_⟩
      · rw [Array.toList_modify]
        exact g2.set _ (fun _ => hu) (fun _ => hq) n
      · rw [Array.toList_modify, ← g3]
        exact born_modify _ n u q
  · rename_i hf
    obtain ⟨r', h1, h2, _⟩ := findA_ok hkd hu g2 hf
    have := h2 rfl
    subst this
    refine ⟨World.setBlk w (σ b).blk (.map (en.push { key := u, val := q, born := cl }) (cl + 1)), ?_, ?_⟩
    · simp [Instr.mapUpdate, hund, hg, hcheck, Instr.findKey, hki', h1, hset]
    · refine write_ok r hb rfl hx rfl rfl rfl (by simp [World.setBlk]) (fun j hj => setBlk_ne w _ j _ hj) ⟨_, setBlk_same w _ _ hlt, ?_, ?_⟩
      · rw [Array.toList_push]
        exact g2.snoc hu hq
      · rw [Array.toList_push, List.map_append, g3]; rfl
  · cases hx

theorem setObj_run (P : Program) {w : World} {k : Nat} {o : Obj} (h : w.heap[k]? = some o) (hc : ∀ c e f, o ≠ .cells c e f) (o' : Obj) : (setObj k o').run P w = .ok () (World.setBlk w k o') := by
  cases o <;> simp [setObj, Sem.run, h, World.setBlk]
  exact absurd rfl (hc _ _ _)

/-! #### A key is taken out -/
def er {α : Type} (l : List α) (n : Nat) : List α := List.rec (motive := fun _ => Nat → List α) (fun _ => []) (fun x xs ih n => Nat.rec (motive := fun _ => List α) xs (fun m _ => x :: ih m) n) l n
theorem er_eq {α : Type} (l : List α) (n : Nat) : er l n = l.eraseIdx n := by
  unfold er
  induction l generalizing n with
  | nil => simp
  | cons x xs ih => cases n with
    | zero => rfl
    | succ n => simpa using ih n
def aDelete (E : Env) (h : H) (t : TypeId) (x k : AV) : Option (AV × H) := match E.ty t with
  | some i => match i.desc with
    | .map kt et => match E.ty kt with
      | some ki => cond (keyOk E ki.desc k) (match x with
        | .nilm => some (.tup [], h)
        | .m b => match h.get b with
          | some (.map es bs ck) => (match findA k es 0 with
            | some (some (n, _)) => (match h.write b (.map (er es n) (er bs n) ck) with
              | some h' => some (.tup [], h')
              | none => none)
            | some none => (match h.write b (.map es bs ck) with
              | some h' => some (.tup [], h')
              | none => none)
            | none => none)
          | _ => none
        | _ => none) none
      | none => none
    | _ => none
  | none => none
theorem RelE.erase {xs : List (AV × AV)} {es : List MapEntry} (r : RelE σ A M xs es) : ∀ n, RelE σ A M (xs.eraseIdx n) (es.eraseIdx n) := by
  induction r with
  | nil => intro n; simpa using RelE.nil
  | cons k x e xs es hk hx t ih =>
    intro n
    cases n with
    | zero => exact t
    | succ n => exact .cons _ _ _ _ _ hk hx (ih n)
theorem map_eraseIdx {α β : Type} (f : α → β) : ∀ (l : List α) (n : Nat), (l.eraseIdx n).map f = (l.map f).eraseIdx n
  | [], n => by simp
  | x :: xs, 0 => by simp
  | x :: xs, n + 1 => by simp [map_eraseIdx f xs n]
theorem aDelete_ok (ok : E.Ok) (r : RelH σ A M w h) {t : TypeId} {x k z : AV} {h' : H} (hx : aDelete E h t x k = some (z, h')) {v u : Value} (hv : RelV σ A M x v) (hu : RelV σ A M k u) {ts : Array TypeId} (hts : ts[0]? = some t) (ty : TypeId) :
    Made E σ A M w h (Builtin.delete_ ts ty #[v, u]) z h' := by
  unfold aDelete at hx
  split at hx
  case h_2 => cases hx
  rename_i i hi
  have hund := ok.und w hi
  split at hx
  case h_2 => cases hx
  rename_i kt et hd
  rw [hd] at hund
  split at hx
  case h_2 => cases hx
  rename_i ki hki
  rw [cond_eq_if] at hx
  split at hx
  case isFalse => cases hx
  rename_i hkd
  have hcheck := fun e => checkKeyO_ok (w := w) ok hki hkd hu e
  have hki' := ok.und w hki
  have tn : ∀ w' h1, Step σ A w h σ A w' h1 → RelH σ A M w' h1 → (Builtin.delete_ ts ty #[v, u]).run E.P w = .ok (.tuple #[]) w' → Made E σ A M w h (Builtin.delete_ ts ty #[v, u]) (.tup []) h1 := fun w' h1 s rh e => ⟨_, w', e, σ, A, s, .tup _ _ .nil, rh⟩
  split at hx
  case h_3 => cases hx
  · cases hx
    cases hv
    refine tn w _ (Step.refl _ _ _ _) r ?_
    simp [Builtin.delete_, hts, hund, hcheck]
  · rename_i b
    cases hv with | m _ hA rr hr =>
    subst hr
    split at hx
    case h_2 => cases hx
    rename_i es bs ck hb
    obtain ⟨en, g1, g2, g3⟩ := r.blk b _ hb
    have hg : (getObj (σ b).blk).run E.P w = .ok (.map en ck) w := by simp [getObj, Sem.run, g1]
    have hlt : (σ b).blk < w.heap.size := (Array.getElem?_eq_some_iff.1 g1).1
    have hset : ∀ o, (setObj (σ b).blk o).run E.P w = .ok () (World.setBlk w (σ b).blk o) := fun o => setObj_run E.P g1 (fun _ _ _ e => by cases e) o
    split at hx
    · rename_i n y0 hf
      obtain ⟨r', h1, _, h3⟩ := findA_ok hkd hu g2 hf
      obtain ⟨yv, e1, e2, _, _⟩ := h3 _ _ rfl
      subst e1
      split at hx
      case h_2 => cases hx
      rename_i h2 hw
      cases hx
      obtain ⟨s2, rh2⟩ := write_ok r hb rfl hw (w' := World.setBlk w (σ b).blk (.map (en.eraseIdxIfInBounds n) ck)) rfl rfl rfl (by simp [World.setBlk]) (fun j hj => setBlk_ne w _ j _ hj) ⟨_, setBlk_same w _ _ hlt, by
        rw [er_eq, Array.toList_eraseIdxIfInBounds]; exact g2.erase n, by rw [er_eq, Array.toList_eraseIdxIfInBounds, map_eraseIdx, g3]⟩
      refine tn _ _ s2 rh2 ?_
      simp [Builtin.delete_, hts, hund, hg, hcheck, Instr.findKey, hki', h1, hset]
    · rename_i hf
      obtain ⟨r', h1, h2, _⟩ := findA_ok hkd hu g2 hf
      have := h2 rfl
      subst this
      split at hx
      case h_2 => cases hx
      rename_i h2 hw
      cases hx
      obtain ⟨s2, rh2⟩ := write_ok r hb rfl hw (w' := World.setBlk w (σ b).blk (.map en ck)) rfl rfl rfl (by simp [World.setBlk]) (fun j hj => setBlk_ne w _ j _ hj) ⟨_, setBlk_same w _ _ hlt, g2, g3⟩
      refine tn _ _ s2 rh2 ?_
      simp [Builtin.delete_, hts, hund, hg, hcheck, Instr.findKey, hki', h1, hset]
    · cases hx

/-! #### Going over a map -/
def aRange (E : Env) (h : H) (t : TypeId) (x : AV) : Option (AV × H) := match E.ty t with
  | some i => match i.desc with
    | .map _ _ => match x with
      | .nilm => some (.p h.next 0, h.push (.iter none 0 [] 0))
      | .m b => match h.get b with
        | some (.map _ _ ck) => some (.p h.next 0, h.push (.iter (some b) ck [] ck))
        | _ => none
      | _ => none
    | _ => none
  | none => none
def inN (n : Nat) (l : List Nat) : Bool := bNot (al (fun x => bNot (Nat.beq x n)) l)
/-- Those that were not told yet: key, value, stamp. -/
def leftA (seen : List Nat) (es : List (AV × AV)) : List Nat → List (AV × AV × Nat) := List.rec (motive := fun _ => List Nat → List (AV × AV × Nat)) (fun _ => [])
  (fun e _ ih bs => List.rec (motive := fun _ => List (AV × AV × Nat)) [] (fun n bs' _ => cond (inN n seen) (ih bs') ((e.1, e.2, n) :: ih bs')) bs) es
def isNil {α : Type} (l : List α) : Bool := List.rec (motive := fun _ => Bool) true (fun _ _ _ => false) l
def goneA (seen bs : List Nat) (last : Nat) : Bool := cond (isNil seen) false (cond (isNil bs) false (al (fun n => Nat.ble last n) bs))
def aNext (h : H) (x : AV) (isStr : Bool) : Option (AV × H) := match x with
  | .p b o => cond (cond (Nat.beq o 0) (bNot isStr) false) (match h.get b with
    | some (.iter none _ _ _) => some (.tup [.b false], h)
    | some (.iter (some m) since seen last) => (match h.get m with
      | some (.map es bs ck) => cond (goneA seen bs last) none (match leftA seen es bs with
        | [] => some (.tup [.b false], h)
        | [e] => cond (Nat.ble (Nat.succ e.2.2) since) (match h.write b (.iter (some m) since (ap seen [e.2.2]) ck) with
          | some h' => some (.tup [.b true, e.1, e.2.1], h')
          | none => none) none
        | _ => none)
      | _ => none)
    | _ => none) none
  | _ => none
def lastOf (l : List Nat) : Option Nat := List.rec (motive := fun _ => Option Nat) none (fun x _ ih => match ih with | some y => some y | none => some x) l
def findB (n : Nat) (es : List (AV × AV)) : List Nat → Option (AV × AV) := List.rec (motive := fun _ => List Nat → Option (AV × AV)) (fun _ => none)
  (fun e _ ih bs => List.rec (motive := fun _ => Option (AV × AV)) none (fun m bs' _ => cond (Nat.beq m n) (some e) (ih bs')) bs) es
def aEntry (h : H) (x : AV) : Option AV := match x with
  | .p b o => cond (Nat.beq o 0) (match h.get b with
    | some (.iter (some m) _ seen last) => (match h.get m, lastOf seen with
      | some (.map es bs ck), some n => cond (Nat.beq ck last) (match findB n es bs with
        | some e => some (.tup [e.1, e.2])
        | none => none) none
      | _, _ => none)
    | _ => none) none
  | _ => none

theorem aRange_ok (ok : E.Ok) (r : RelH σ A M w h) {t : TypeId} {x z : AV} {h' : H} (hx : aRange E h t x = some (z, h')) {v : Value} (hv : RelV σ A M x v) : Made E σ A M w h (Instr.range t v) z h' := by
  unfold aRange at hx
  split at hx
  case h_2 => cases hx
  rename_i i hi
  have hund := ok.und w hi
  split at hx
  case h_2 => cases hx
  rename_i kt et hd
  rw [hd] at hund
  split at hx
  case h_3 => cases hx
  · cases hx
    cases hv
    obtain ⟨p1, p2⟩ := push_ok r (.mapIter none 0 #[] 0) (.iter none 0 [] 0) ⟨w.heap.size, 0, 0⟩ (fun _ => rfl) ⟨by rw [upd_same]; exact heap_alloc_new w _, by rw [upd_same], fun c e => by cases e⟩
    refine ⟨.pointer (some ⟨w.heap.size, 0, none⟩), _, ?_, _, _, p1, .p _ _ (.inr rfl) _ (by rw [upd_same]), p2⟩
    simp [Instr.range, hund]
  · rename_i b
    split at hx
    case h_2 => cases hx
    rename_i es bs ck hb
    cases hx
    cases hv with | m _ hA rr hr =>
    subst hr
    obtain ⟨en, g1, g2, g3⟩ := r.blk b _ hb
    have hg : (getObj (σ b).blk).run E.P w = .ok (.map en ck) w := by simp [getObj, Sem.run, g1]
    obtain ⟨p1, p2⟩ := push_ok r (.mapIter (some (σ b).blk) ck #[] ck) (.iter (some b) ck [] ck) ⟨w.heap.size, 0, 0⟩ (fun _ => rfl) ⟨by
      rw [upd_same]
      simp only [Option.map_some]
      rw [(upd_agree r _ b hA).2]
      exact heap_alloc_new w _, by rw [upd_same], fun c e => by cases e; exact .inl hA⟩
    refine ⟨.pointer (some ⟨w.heap.size, 0, none⟩), _, ?_, _, _, p1, .p _ _ (.inr rfl) _ (by rw [upd_same]), p2⟩
    simp [Instr.range, hund, hg]

theorem inN_iff {n : Nat} {l : List Nat} : inN n l = true ↔ n ∈ l := by
  unfold inN
  rw [bNot_eq, al_eq]
  simp only [bNot_eq, natBeq, Bool.not_eq_true']
  constructor
  · intro h
    rw [List.all_eq_false] at h
    obtain ⟨x, hx, h⟩ := h
    simp at h
    rw [← h]; exact hx
  · intro h
    rw [List.all_eq_false]
    exact ⟨n, h, by simp⟩

/-- What the left ones are. -/
inductive RelN (σ : Nat → Loc) (A : Nat → Prop) (M : Mem) : List (AV × AV × Nat) → List MapEntry → Prop
  | nil : RelN σ A M [] []
  | cons (k x : AV) (e : MapEntry) (xs : List (AV × AV × Nat)) (es : List MapEntry) (hk : RelV σ A M k e.key) (hx : RelV σ A M x e.val) (t : RelN σ A M xs es) : RelN σ A M ((k, x, e.born) :: xs) (e :: es)
theorem leftA_ok (seen : List Nat) {xs : List (AV × AV)} {es : List MapEntry} (r : RelE σ A M xs es) : RelN σ A M (leftA seen xs (es.map (·.born))) (es.filter fun e => !seen.toArray.contains e.born) := by
  induction r with
  | nil => exact .nil
  | cons k x e xs es hk hx t ih =>
    show RelN σ A M (cond (inN e.born seen) (leftA seen xs (es.map (·.born))) ((k, x, e.born) :: leftA seen xs (es.map (·.born)))) _
    rw [List.filter_cons]
    by_cases h : e.born ∈ seen
    · rw [inN_iff.2 h]
      simp [h]
      simpa using ih
    · have : inN e.born seen = false := by rw [← Bool.not_eq_true, inN_iff]; exact h
      rw [this]
      simp [h]
      exact .cons _ _ _ _ _ hk hx (by simpa using ih)

theorem aNext_ok (r : RelH σ A M w h) {x z : AV} {s : Bool} {h' : H} (hx : aNext h x s = some (z, h')) {v : Value} (hv : RelV σ A M x v) (ty : TypeId) : Made E σ A M w h (Instr.next v s ty) z h' := by
  unfold aNext at hx
  split at hx
  case h_2 => cases hx
  rename_i b o
  rw [cond_eq_if] at hx
  split at hx
  case isFalse => cases hx
  rename_i hc
  have hs : s = false := by
    rw [cond_eq_if] at hc
    split at hc
    · cases s <;> simp [bNot] at hc ⊢
    · cases hc
  have ho : o = 0 := by
    rw [cond_eq_if, natBeq] at hc
    split at hc
    · rename_i e; exact of_decide_eq_true e
    · cases hc
  subst hs ho
  cases hv with | p _ _ hA a ha =>
  split at hx
  case h_3 => cases hx
  · rename_i q1 q2 q3 hb
    cases hx
    obtain ⟨g1, g2, g3⟩ := r.blk b _ hb
    refine ⟨.tuple #[.bool false], w, ?_, σ, A, Step.refl _ _ _ _, .tup _ _ (.cons _ _ _ _ (.b false) .nil), r⟩
    subst ha
    simp [Instr.next, g2, getObj, Sem.run, g1]
  · rename_i m since seen last hb
    obtain ⟨g1, g2, g3⟩ := r.blk b _ hb
    simp only [Option.map_some] at g1
    split at hx
    case h_2 => cases hx
    rename_i es bs ck hm
    obtain ⟨en, k1, k2, k3⟩ := r.blk m _ hm
    rw [cond_eq_if] at hx
    split at hx
    case isTrue => cases hx
    rename_i hgone
    have hgone' : (!seen.toArray.isEmpty && !en.isEmpty && en.all (fun e => decide (e.born ≥ last))) = false := by
      rw [← Bool.not_eq_true]
      intro e
      apply hgone
      simp only [Bool.and_eq_true, Bool.not_eq_true'] at e
      obtain ⟨⟨e1, e2⟩, e3⟩ := e
      unfold goneA
      have n1 : isNil seen = false := by cases seen with | nil => simp at e1 | cons _ _ => rfl
      have n2 : isNil bs = false := by
        rw [← k3]
        obtain ⟨l⟩ := en
        cases l with | nil => simp at e2 | cons _ _ => rfl
      rw [n1, n2]
      show al (fun n => Nat.ble last n) bs = true
      rw [al_eq, List.all_eq_true, ← k3]
      intro n hn
      obtain ⟨e, he, rfl⟩ := List.mem_map.1 hn
      rw [Array.all_eq_true_iff_forall_mem] at e3
      have := e3 e (Array.mem_toList_iff.1 he)
      rw [Nat.ble_eq]; simpa using this
    have hgb : (getObj (σ b).blk).run E.P w = .ok (.mapIter (some (σ m).blk) since seen.toArray last) w := by simp [getObj, Sem.run, g1]
    have hgm : (getObj (σ m).blk).run E.P w = .ok (.map en ck) w := by simp [getObj, Sem.run, k1]
    have hleft := leftA_ok seen k2
    rw [k3] at hleft
    have hfil : (en.filter fun e => !seen.toArray.contains e.born).toList = en.toList.filter fun e => !seen.toArray.contains e.born := Array.toList_filter
    subst ha
    split at hx
    case h_3 => cases hx
    · rename_i hl
      cases hx
      rw [hl] at hleft
      have he : (en.filter fun e => !seen.toArray.contains e.born) = #[] := by
        apply Array.toList_inj.1
        rw [hfil]
        generalize en.toList.filter (fun e => !seen.toArray.contains e.born) = l at hleft
        cases hleft; rfl
      refine ⟨.tuple #[.bool false], w, ?_, σ, A, Step.refl _ _ _ _, .tup _ _ (.cons _ _ _ _ (.b false) .nil), r⟩
      simp only [Instr.next, g2, Nat.add_zero, Sem.run_bind, hgb, hgm, Result.andThen_ok, hgone', he]
      simp [Question.forced]
    · rename_i e hl
      rw [cond_eq_if] at hx
      split at hx
      case isFalse => cases hx
      rename_i hlt
      have hlt := Nat.le_of_ble_eq_true hlt
      split at hx
      case h_2 => cases hx
      rename_i h1 hw
      cases hx
      rw [hl] at hleft
      obtain ⟨ev, hev⟩ : ∃ ev, en.toList.filter (fun e => !seen.toArray.contains e.born) = [ev] := by
        generalize en.toList.filter (fun e => !seen.toArray.contains e.born) = l at hleft
        cases hleft with | cons _ _ e' _ es' _ _ t => cases t; exact ⟨e', rfl⟩
      rw [hev] at hleft
      have he : (en.filter fun e => !seen.toArray.contains e.born) = #[ev] := by
        apply Array.toList_inj.1
        rw [hfil, hev]
      obtain ⟨q1, q2, q3⟩ : e.2.2 = ev.born ∧ RelV σ A M e.1 ev.key ∧ RelV σ A M e.2.1 ev.val := by
        cases hleft with | cons _ _ _ _ _ a1 a2 t => exact ⟨rfl, a1, a2⟩
      have hlt' : ev.born < since := by rw [← q1]; exact hlt
      have hltb : (σ b).blk < w.heap.size := (Array.getElem?_eq_some_iff.1 g1).1
      obtain ⟨s2, rh2⟩ := write_ok r hb rfl hw (w' := World.setBlk w (σ b).blk (.mapIter (some (σ m).blk) since (seen.toArray.push ev.born) ck)) rfl rfl rfl (by simp [World.setBlk]) (fun j hj => setBlk_ne w _ j _ hj)
        (y := .iter (some m) since (ap seen [e.2.2]) ck) ⟨by rw [setBlk_same w _ _ hltb, ap_eq, q1]; simp, g2, g3⟩
      refine ⟨.tuple #[.bool true, ev.key, ev.val], _, ?_, σ, A, s2, .tup _ _ (.cons _ _ _ _ (.b true) (.cons _ _ _ _ q2 (.cons _ _ _ _ q3 .nil))), rh2⟩
      have hset := setObj_run E.P g1 (fun _ _ _ e => by cases e) (.mapIter (some (σ m).blk) since (seen.toArray.push ev.born) ck)
      simp only [Instr.next, g2, Nat.add_zero, Sem.run_bind, hgb, hgm, Result.andThen_ok, hgone', he]
      have hge : ¬ since ≤ ev.born := by omega
      simp only [List.push_toArray] at hset
      simp [Question.forced, hlt', hge, hset]

theorem lastOf_eq (l : List Nat) : lastOf l = l.toArray.back? := by
  have : ∀ l : List Nat, lastOf l = l.getLast? := by
    intro l
    induction l with
    | nil => rfl
    | cons x xs ih =>
      show (match lastOf xs with | some y => some y | none => some x) = _
      rw [ih]
      cases xs with
      | nil => rfl
      | cons y ys => rw [List.getLast?_cons_cons]; cases hg : (y :: ys).getLast? with
        | none => simp at hg
        | some z => rfl
  rw [this]
  simp [Array.back?, List.getLast?_eq_getElem?]
theorem findB_ok {n : Nat} {xs : List (AV × AV)} {es : List MapEntry} (r : RelE σ A M xs es) {q : AV × AV} (h : findB n xs (es.map (·.born)) = some q) : ∃ e, es.find? (fun e => e.born == n) = some e ∧ RelV σ A M q.1 e.key ∧ RelV σ A M q.2 e.val := by
  induction r with
  | nil => cases h
  | cons k x e xs es hk hx t ih =>
    have h : cond (Nat.beq e.born n) (some (k, x)) (findB n xs (es.map (·.born))) = some q := h
    rw [cond_eq_if, natBeq] at h
    split at h
    · rename_i e1
      have e1 := of_decide_eq_true e1
      cases h
      exact ⟨e, by simp [e1], hk, hx⟩
    · rename_i e1
      obtain ⟨e', h1, h2⟩ := ih h
      refine ⟨e', ?_, h2⟩
      have : (e.born == n) = false := by simpa using e1
      simp [this, h1]
theorem aEntry_ok (r : RelH σ A M w h) {x z : AV} (hx : aEntry h x = some z) {v : Value} (hv : RelV σ A M x v) : ∃ u, (Instr.entry v).run E.P w = .ok u w ∧ RelV σ A M z u := by
  unfold aEntry at hx
  split at hx
  case h_2 => cases hx
  rename_i b o
  rw [cond_eq_if, natBeq] at hx
  split at hx
  case isFalse => cases hx
  rename_i ho
  have ho := of_decide_eq_true ho
  subst ho
  cases hv with | p _ _ hA a ha =>
  subst ha
  split at hx
  case h_2 => cases hx
  rename_i m since seen last hb
  obtain ⟨g1, g2, g3⟩ := r.blk b _ hb
  simp only [Option.map_some] at g1
  split at hx
  case h_2 => cases hx
  rename_i es bs ck n hm hlast
  obtain ⟨en, k1, k2, k3⟩ := r.blk m _ hm
  rw [cond_eq_if, natBeq] at hx
  split at hx
  case isFalse => cases hx
  rename_i hck
  have hck := of_decide_eq_true hck
  subst hck
  split at hx
  case h_2 => cases hx
  rename_i e hf
  cases hx
  rw [← k3] at hf
  obtain ⟨ev, f1, f2, f3⟩ := findB_ok k2 hf
  rw [lastOf_eq] at hlast
  have hgb : (getObj (σ b).blk).run E.P w = .ok (.mapIter (some (σ m).blk) since seen.toArray ck) w := by simp [getObj, Sem.run, g1]
  have hgm : (getObj (σ m).blk).run E.P w = .ok (.map en ck) w := by simp [getObj, Sem.run, k1]
  refine ⟨.tuple #[ev.key, ev.val], ?_, .tup _ _ (.cons _ _ _ _ f2 (.cons _ _ _ _ f3 .nil))⟩
  have f1' : en.find? (fun e => e.born == n) = some ev := by rw [← Array.find?_toList]; exact f1
  simp only [Instr.entry, g2, Nat.add_zero, Sem.run_bind, hgb, hgm, Result.andThen_ok, hlast]
  simp [f1']
end
end
end Go.Proofs.YtfaemheimmndgaaGreatDoor.XI
