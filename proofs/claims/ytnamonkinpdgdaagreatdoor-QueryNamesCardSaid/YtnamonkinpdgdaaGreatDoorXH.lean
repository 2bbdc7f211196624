/- Lengths, bytes and strings, maps. Part of a verified reckoner of closed runs: no condition. -/
import Derived.Test.YtnamonkinpdgdaaGreatDoorXG
set_option linter.unusedVariables false
set_option linter.unusedSimpArgs false
namespace Go.Proofs.YtnamonkinpdgdaaGreatDoor.XI
noncomputable section

section
variable {E : Env} {σ : Nat → Loc} {A : Nat → Prop} {M : Addr → Option Value} {w : World} {h : H}

/-! #### len, min, max -/
def aLen (E : Env) (h : H) (t : TypeId) (x : AV) : Option AV := match E.ty t with
  | some i => match i.desc, x with
    | .string, .s l => some (.i .i64 (ln l : Int))
    | .array n _, _ => some (.i .i64 (n : Int))
    | .slice _, .sl _ _ n _ _ => some (.i .i64 (n : Int))
    | .slice _, .nils => some (.i .i64 0)
    | .slice _, .ro _ n _ => some (.i .i64 (n : Int))
    | .map _ _, .nilm => some (.i .i64 0)
    | .map _ _, .m b => match h.get b with
      | some (.map es) => some (.i .i64 (ln es : Int))
      | _ => none
    | _, _ => none
  | none => none
theorem RelE.length {xs : List (AV × AV)} {es : List MapEntry} (r : RelE σ A M xs es) : xs.length = es.length := by
  induction r with
  | nil => rfl
  | cons => simp_all
theorem aLen_ok (ok : E.Ok) (r : RelH σ A M w h) {t : TypeId} {x z : AV} (hx : aLen E h t x = some z) {v : Value} (hv : RelV σ A M x v) (ts : Array TypeId) (ht : ts[0]? = some t) (ty : TypeId) : ∃ u, (Builtin.len_ ts ty #[v]).run E.P w = .ok u w ∧ RelV σ A M z u := by
  unfold aLen at hx
  simp only [tk_eq, dp_eq, ap_eq, ln_eq, nt_eq, mp_eq, al_eq, st_eq, rpl_eq, eqN_eq, iLe_eq, iLt_eq, iEq_beq, bNot_eq, iAdd_eq, iSub_eq, wr_eq, cond_eq_if, ble_dec, natBeq] at hx
  split at hx
  case h_2 => cases hx
  rename_i i hi
  have hu := ok.und w hi
  split at hx
  · rename_i hd; cases hx; cases hv with | s _ s e =>
    rw [hd] at hu
    subst e
    exact ⟨.int .i64 s.size, by simp [Builtin.len_, ht, hu, goInt], by rw [nb_length]; exact .i _ _⟩
  · rename_i n e hd; cases hx
    rw [hd] at hu
    exact ⟨.int .i64 n, by cases v <;> simp [Builtin.len_, ht, hu, goInt], .i _ _⟩
  · rename_i hd; cases hx; cases hv
    rw [hd] at hu
    refine ⟨.int .i64 _, ?_, .i _ _⟩
    simp [Builtin.len_, ht, hu, goInt]
  · rename_i hd; cases hx; cases hv
    rw [hd] at hu
    exact ⟨.int .i64 0, by simp [Builtin.len_, ht, hu, goInt], .i _ _⟩
  · rename_i hd; cases hx
    rw [hd] at hu
    cases hv with
    | ro _ _ _ => refine ⟨.int .i64 _, ?_, .i _ _⟩; simp [Builtin.len_, ht, hu, goInt]
    | ro0 => exact ⟨.int .i64 0, by simp [Builtin.len_, ht, hu, goInt], .i _ _⟩
  · rename_i hd; cases hx; cases hv
    rw [hd] at hu
    exact ⟨.int .i64 0, by simp [Builtin.len_, ht, hu, goInt], .i _ _⟩
  · rename_i b hd
    rw [hd] at hu
    split at hx
    case h_2 => cases hx
    rename_i es hb
    cases hx
    cases hv with | m _ hA rr hr =>
    obtain ⟨en, cl, g1, g2⟩ := r.blk b _ hb
    refine ⟨.int .i64 (en.size : Int), ?_, ?_⟩
    · subst hr
      have hg : (getObj (σ b).blk).run E.P w = .ok (.map en cl) w := by simp [getObj, Sem.run, g1]
      simp [Builtin.len_, ht, hu, hg, goInt]
    · rw [g2.length]
      simpa using RelV.i _ _
  · cases hx

def mn2 (isMax : Bool) : AV → AV → Option AV
  | .i k x, .i _ y => some (.i k (cond isMax (cond (iLt x y) y x) (cond (iLt y x) y x)))
  | _, _ => none
theorem min2_ok {P : Program} {x y z : AV} (hx : mn2 false x y = some z) {v u : Value} (hv : RelV σ A M x v) (hu : RelV σ A M y u) : ∃ r, (Builtin.min2 v u).run P w = .ok r w ∧ RelV σ A M z r := by
  unfold mn2 at hx
  simp only [tk_eq, dp_eq, ap_eq, ln_eq, nt_eq, mp_eq, al_eq, st_eq, rpl_eq, eqN_eq, iLe_eq, iLt_eq, iEq_beq, bNot_eq, iAdd_eq, iSub_eq, wr_eq, cond_eq_if, ble_dec, natBeq, decide_eq_true_eq] at hx
  split at hx
  · cases hx; cases hv; cases hu; exact ⟨_, rfl, by simpa using .i _ _⟩
  · cases hx
theorem max2_ok {P : Program} {x y z : AV} (hx : mn2 true x y = some z) {v u : Value} (hv : RelV σ A M x v) (hu : RelV σ A M y u) : ∃ r, (Builtin.max2 v u).run P w = .ok r w ∧ RelV σ A M z r := by
  unfold mn2 at hx
  simp only [tk_eq, dp_eq, ap_eq, ln_eq, nt_eq, mp_eq, al_eq, st_eq, rpl_eq, eqN_eq, iLe_eq, iLt_eq, iEq_beq, bNot_eq, iAdd_eq, iSub_eq, wr_eq, cond_eq_if, ble_dec, natBeq, decide_eq_true_eq] at hx
  split at hx
  · cases hx; cases hv; cases hu; exact ⟨_, rfl, by simpa using .i _ _⟩
  · cases hx
def aMm (isMax : Bool) : AV → List AV → Option AV
  | x, [] => some x
  | x, y :: ys => match mn2 isMax x y with
    | some z => aMm isMax z ys
    | none => none
theorem aMin_ok {P : Program} : ∀ {ys : List AV} {x z : AV}, aMm false x ys = some z → ∀ {v : Value} {us : List Value}, RelV σ A M x v → RelL σ A M ys us → ∃ r, (us.foldlM Builtin.min2 v).run P w = .ok r w ∧ RelV σ A M z r
  | [], x, z, hz, v, us, hv, hu => by cases hu; simp only [aMm, Option.some.injEq] at hz; subst hz; exact ⟨v, rfl, hv⟩
  | y :: ys, x, z, hz, v, us, hv, hu => by
    cases hu with | cons _ u _ us h1 t1 =>
    simp only [aMm] at hz
    split at hz
    · rename_i q hq
      obtain ⟨r, r1, r2⟩ := min2_ok (P := P) (w := w) hq hv h1
      obtain ⟨r', s1, s2⟩ := aMin_ok (P := P) hz r2 t1
      exact ⟨r', by simp [List.foldlM_cons, r1, s1], s2⟩
    · cases hz
theorem aMax_ok {P : Program} : ∀ {ys : List AV} {x z : AV}, aMm true x ys = some z → ∀ {v : Value} {us : List Value}, RelV σ A M x v → RelL σ A M ys us → ∃ r, (us.foldlM Builtin.max2 v).run P w = .ok r w ∧ RelV σ A M z r
  | [], x, z, hz, v, us, hv, hu => by cases hu; simp only [aMm, Option.some.injEq] at hz; subst hz; exact ⟨v, rfl, hv⟩
  | y :: ys, x, z, hz, v, us, hv, hu => by
    cases hu with | cons _ u _ us h1 t1 =>
    simp only [aMm] at hz
    split at hz
    · rename_i q hq
      obtain ⟨r, r1, r2⟩ := max2_ok (P := P) (w := w) hq hv h1
      obtain ⟨r', s1, s2⟩ := aMax_ok (P := P) hz r2 t1
      exact ⟨r', by simp [List.foldlM_cons, r1, s1], s2⟩
    · cases hz

/-! #### Strings and bytes -/
def bytesL : List AV → Option (List Nat)
  | [] => some []
  | .i .u8 n :: xs => (bytesL xs).map (n.toNat % 256 :: ·)
  | _ :: _ => none
theorem bytesL_ok : ∀ {xs : List AV} {l : List Nat} {vs : List Value}, bytesL xs = some l → RelL σ A M xs vs → ∃ ns : List Int, vs = ns.map (Value.int .u8) ∧ nb ⟨(ns.map fun n => UInt8.ofNat n.toNat).toArray⟩ = l
  | [], l, vs, hl, hr => by cases hr; simp only [bytesL, Option.some.injEq] at hl; subst hl; exact ⟨[], rfl, rfl⟩
  | x :: xs, l, vs, hl, hr => by
    cases hr with | cons _ v _ vs h1 t1 =>
    unfold bytesL at hl
    split at hl
    · rename_i e; cases e
    · rename_i n xs' e
      cases e
      simp only [Option.map_eq_some_iff] at hl
      obtain ⟨l', h2, rfl⟩ := hl
      obtain ⟨ns, rfl, hns⟩ := bytesL_ok h2 t1
      cases h1
      refine ⟨n :: ns, rfl, ?_⟩
      simp only [nb, List.map_cons] at hns ⊢
      rw [← hns]
      simp
    · cases hl

def aToStr (E : Env) (h : H) (src dst : TypeId) (x : AV) : Option AV := match E.ty src, E.ty dst with
  | some i, some j => match i.desc, j.desc with
    | .slice e, .string => match E.ty e with
      | some k => match k.desc with
        | .int .u8 => match aSrc h 1 x, isS x with
          | some (xs, _), false => (bytesL xs).map .s
          | _, _ => none
        | _ => none
      | none => none
    | _, _ => none
  | _, _ => none
where isS : AV → Bool | .s _ => true | _ => false

theorem slice_of {z : Nat} {x : AV} {xs : List AV} {n : Nat} (hx : aSrc h z x = some (xs, n)) (hs : aToStr.isS x = false) {v : Value} (hv : RelV σ A M x v) : ∃ a l c, v = .slice a l c := by
  cases hv <;> simp [aSrc] at hx <;> first | exact ⟨_, _, _, rfl⟩ | (simp [aToStr.isS] at hs)

theorem aToStr_ok (ok : E.Ok) (r : RelH σ A M w h) {src dst : TypeId} {x z : AV} (hx : aToStr E h src dst x = some z) {v : Value} (hv : RelV σ A M x v) : ∃ u, (convert src dst v).run E.P w = .ok u w ∧ RelV σ A M z u := by
  unfold aToStr at hx
  split at hx
  case h_2 => cases hx
  rename_i i j hi hj
  split at hx
  case h_2 => cases hx
  rename_i e hd1 hd2
  split at hx
  case h_2 => cases hx
  rename_i k hk
  split at hx
  case h_2 => cases hx
  rename_i hd3
  split at hx
  case h_2 => cases hx
  rename_i xs n hsrc hs
  simp only [Option.map_eq_some_iff] at hx
  obtain ⟨l, hl, rfl⟩ := hx
  obtain ⟨h1, _⟩ := ok.ty src i hi
  obtain ⟨h2, _⟩ := ok.ty dst j hj
  obtain ⟨h3, _⟩ := ok.ty e k hk
  rw [hd1] at h1
  rw [hd2] at h2
  rw [hd3] at h3
  obtain ⟨hlen, vs, g1, g2, g3⟩ := aSrc_ok (P := E.P) r hsrc hv
  obtain ⟨ns, hns1, hns2⟩ := bytesL_ok hl g1
  obtain ⟨a, sl, sc, rfl⟩ := slice_of hsrc hs hv
  rw [run_convert_bytes_string w src dst e a sl sc h1 h3 h2]
  have hn : sl = n := by
    have : (Builtin.lenOf (.slice a sl sc)) = (pure sl : Sem Nat) := rfl
    rw [this] at hlen
    have h4 : (Sem.pure sl : Sem Nat) = Sem.pure n := hlen
    cases h4
    rfl
  have hlv := g1.length
  have hf := g3 n (Nat.le_refl _)
  rw [List.take_of_length_le (by simp at hlv ⊢; omega)] at hf
  cases a with
  | none =>
    simp only [Builtin.firstCells, Sem.run_pure] at hf
    injection hf with e1
    have : vs.toList = [] := by
      have := congrArg Array.toList e1
      simpa using this.symm
    rw [this] at hns1
    have hns : ns = [] := by
      cases ns with
      | nil => rfl
      | cons q qs => simp at hns1
    subst hns
    exact ⟨.string .empty, rfl, .s _ _ hns2⟩
  | some ad =>
    have hld : (loadCells ad sl).run E.P w = .ok (ns.map (Value.int .u8)).toArray w := by
      simp only [Builtin.firstCells, Nat.mul_one] at hf
      rw [hn, hf]
      simp [hns1]
    rw [run_bytesToString w ad sl sc ns hld, foldl_push_bytes]
    refine ⟨_, rfl, .s _ _ ?_⟩
    rw [← hns2]
    simp [ByteArray.empty, ByteArray.emptyWithCapacity, nb] <;> rfl

def aToBytes (E : Env) (h : H) (src dst : TypeId) (x : AV) : Option (AV × H) := match E.ty src, E.ty dst, x with
  | some i, some j, .s l => match j.desc with
    | .slice e => match E.ty e with
      | some k => match k.desc with
        | .int .u8 => some (.sl h.next 0 (ln l) (ln l) 1, h.push (.cells (mp (fun (b : Nat) => AV.i .u8 (b : Int)) l)))
        | _ => none
      | none => none
    | _ => none
  | _, _, _ => none
theorem aToBytes_ok (ok : E.Ok) (r : RelH σ A M w h) {src dst : TypeId} {x z : AV} {h' : H} (hx : aToBytes E h src dst x = some (z, h')) {v : Value} (hv : RelV σ A M x v) : Made E σ A M w h (convert src dst v) z h' := by
  unfold aToBytes at hx
  simp only [tk_eq, dp_eq, ap_eq, ln_eq, nt_eq, mp_eq, al_eq, st_eq, rpl_eq, eqN_eq, iLe_eq, iLt_eq, iEq_beq, bNot_eq, iAdd_eq, iSub_eq, wr_eq, cond_eq_if, ble_dec, natBeq] at hx
  split at hx
  case h_2 => cases hx
  rename_i i j l hi hj
  split at hx
  case h_2 => cases hx
  rename_i e hd
  split at hx
  case h_2 => cases hx
  rename_i k hk
  split at hx
  case h_2 => cases hx
  rename_i hd3
  cases hx
  cases hv with | s _ s e' =>
  subst e'
  obtain ⟨h1, _⟩ := ok.ty src i hi
  obtain ⟨h2, _⟩ := ok.ty dst j hj
  obtain ⟨h3, _⟩ := ok.ty e k hk
  rw [hd] at h2
  rw [hd3] at h3
  have hrun := Lib.run_convert_string_bytes (P := E.P) w src dst e s h1 h2 h3
  have hnew := Lib.bytesWorld_at_new w e s
  have hsz := Lib.bytesWorld_size w e s
  have hcs : (Lib.bytesCells w e s).size = grownCap w s.size 0 e := by
    have := grownCap_ge' w s.size 0 e
    have hs : s.data.size = s.size := rfl
    simp [Lib.bytesCells, hs]
    omega
  have hge := grownCap_ge' w s.size 0 e
  have hag := upd_agree r ⟨w.heap.size, 0, (Lib.bytesCells w e s).size⟩
  -- the same block without the mark
  have key : Step σ A w h (upd σ h.next ⟨w.heap.size, 0, (Lib.bytesCells w e s).size⟩) (fun b => A b ∨ b = h.next) (Lib.bytesWorld w e s) (h.push (.cells ((nb s).map fun (b : Nat) => AV.i .u8 (b : Int)))) ∧
      RelH (upd σ h.next ⟨w.heap.size, 0, (Lib.bytesCells w e s).size⟩) (fun b => A b ∨ b = h.next) M (Lib.bytesWorld w e s) (h.push (.cells ((nb s).map fun (b : Nat) => AV.i .u8 (b : Int)))) := by
    have hnb := rel_bytes (σ := σ) (A := A) (M := M) s
    obtain ⟨p1, p2⟩ := push_prefix r ((nb s).map fun (b : Nat) => AV.i .u8 (b : Int)) (Lib.bytesCells w e s) e _ hnb (fun q u hq => by
      have hlt : q < s.size := by
        have := (List.getElem?_eq_some_iff.1 hq).1
        simpa using this
      have hq' : (s.data.map fun b => Value.int .u8 b.toNat)[q]? = some u := by rw [← Array.getElem?_toList]; exact hq
      unfold Lib.bytesCells
      rw [Array.getElem?_append_left (by simpa using hlt)]
      exact hq')
    have hold : ∀ q, q < w.heap.size → (Lib.bytesWorld w e s).heap[q]? = (w.alloc (.cells (Lib.bytesCells w e s) e)).heap[q]? := fun q hq => by
      rw [Lib.bytesWorld_at_old w e s q hq, heap_alloc_old w _ q hq]
    refine ⟨⟨p1.agree, p1.fresh, rfl, rfl, rfl, by rw [hsz]; omega, fun q hq ho => by rw [hold q hq]; exact p1.keep q hq ho, p1.own, p1.next, p1.wb, p1.low, p1.st, p1.mod, p1.only⟩, ⟨p2.bound, p2.dom, fun b x hb => ?_, p2.inj, fun ad v hM => ⟨?_, (p2.stay ad v hM).2⟩, p2.wb, p2.pos⟩⟩
    · by_cases hbn : b = h.next
      · subst hbn
        have hx := p2.blk _ x hb
        rw [H.get_push, if_pos rfl] at hb
        cases hb
        obtain ⟨c, ec, fr, b1, b2, b3, b4⟩ := hx
        rw [upd_same] at b1 b2 b4
        have e1 := heap_alloc_new w (.cells (Lib.bytesCells w e s) e)
        rw [e1] at b1
        cases b1
        refine ⟨_, _, _, by rw [upd_same]; exact hnew, by rw [upd_same], fun q hq => ?_, by rw [upd_same]; exact b4⟩
        simp
        intro h1
        omega
      · refine RelB.move (fun b a => ⟨a, rfl⟩) (p2.dom b x hb) (fun lx => ?_) (p2.blk b x hb)
        have hb' : h.get b = some x := by rw [H.get_push, if_neg hbn] at hb; exact hb
        rw [upd_ne σ _ hbn]
        exact hold _ ((r.blk b x hb').lt lx)
    · have := (r.stay ad v hM).1
      have hlt := World.block_lt_of_cell? w ad this
      rw [World.cell?_of_block (w := w) (Lib.bytesWorld_at_old w e s _ hlt)]
      exact this
  refine ⟨_, _, hrun, _, _, key.1, ?_, key.2⟩
  rw [nb_length]
  exact rel_sl_new (l := ⟨w.heap.size, 0, (Lib.bytesCells w e s).size⟩) (.inr rfl) (upd_same _ _ _) rfl (Nat.le_refl _) hge (by simp [hcs])

/-! #### Maps -/
def aMakeMap (h : H) : AV × H := (.m h.next, h.push (.map []))
theorem aMakeMap_ok (r : RelH σ A M w h) {t : TypeId} {hint : Option Value} (hh : hint = none) : Made E σ A M w h (Instr.makeMap t hint) (aMakeMap h).1 (aMakeMap h).2 := by
  subst hh
  obtain ⟨p1, p2⟩ := push_ok r (.map #[] 0) (.map []) ⟨w.heap.size, 0, 0⟩ (fun _ => rfl) ⟨#[], 0, by rw [upd_same]; exact heap_alloc_new w _, .nil⟩
  refine ⟨.map (some w.heap.size), _, ?_, _, _, p1, .m _ (.inr rfl) _ (by rw [upd_same]), p2⟩
  simp [Instr.makeMap]

/-- Where a key stands: strings and numbers alone. -/
def keyEq : AV → AV → Option Bool
  | .s a, .s b => some (eqN a b)
  | .i k a, .i k' b => if k = k' then some (iEq a b) else none
  | .b a, .b b => some (a == b)
  | _, _ => none
def findA (k : AV) : List (AV × AV) → Nat → Option (Option (Nat × AV))
  | [], _ => some none
  | (k', x) :: es, n => match keyEq k k' with
    | some true => some (some (n, x))
    | some false => findA k es (n + 1)
    | none => none
def keyDesc : TypeDesc → AV → Bool
  | .string, .s _ => true
  | .int _, .i _ _ => true
  | .bool, .b _ => true
  | _, _ => false

theorem keyEq_ok {d : TypeDesc} {x y : AV} {r : Bool} (hd : keyDesc d x = true) (h : keyEq x y = some r) {v u : Value} (hv : RelV σ A M x v) (hu : RelV σ A M y u) : Instr.sameNow d v u = some r := by
  unfold keyEq at h
  simp only [tk_eq, dp_eq, ap_eq, ln_eq, nt_eq, mp_eq, al_eq, st_eq, rpl_eq, eqN_eq, iLe_eq, iLt_eq, iEq_beq, bNot_eq, iAdd_eq, iSub_eq, wr_eq, cond_eq_if, ble_dec, natBeq] at h
  split at h
  · cases hv with | s _ s e1 => cases hu with | s _ s' e2 =>
    cases d <;> simp [keyDesc] at hd
    cases h
    subst e1 e2
    have : (nb s == nb s') = (s == s') := by rw [nb_beq, beq_toListBytes]
    simp only [Instr.sameNow, this]
  · split at h
    · rename_i e
      subst e
      cases hv; cases hu
      cases d <;> simp [keyDesc] at hd
      cases h
      simp [Instr.sameNow]
    · cases h
  · cases hv; cases hu
    cases d <;> simp [keyDesc] at hd
    cases h
    simp [Instr.sameNow]
  · cases h

theorem findA_ok {d : TypeDesc} {k : AV} {kv : Value} (hd : keyDesc d k = true) (hk : RelV σ A M k kv) {xs : List (AV × AV)} {es : List MapEntry} (hr : RelE σ A M xs es) : ∀ {n : Nat} {r : Option (Nat × AV)}, findA k xs n = some r →
    ∃ r', Instr.findNow d kv es n = some r' ∧ (r = none → r' = none) ∧ ∀ m x, r = some (m, x) → ∃ v, r' = some (m, v) ∧ RelV σ A M x v ∧ n ≤ m ∧ m - n < es.length := by
  induction hr with
  | nil => intro n r h; simp only [findA, Option.some.injEq] at h; subst h; exact ⟨none, rfl, fun _ => rfl, fun _ _ e => by cases e⟩
  | cons k' x e xs es hk' hx t ih =>
    intro n r h
    simp only [findA] at h
    split at h
    · rename_i hq
      cases h
      refine ⟨some (n, e.val), by simp [Instr.findNow, keyEq_ok hd hq hk hk'], fun e' => (by cases e'), fun m y e' => ?_⟩
      cases e'
      exact ⟨_, rfl, hx, Nat.le_refl _, by simp⟩
    · rename_i hq
      obtain ⟨r', h1, h2, h3⟩ := ih h
      refine ⟨r', by simp [Instr.findNow, keyEq_ok hd hq hk hk', h1], h2, fun m y e' => ?_⟩
      obtain ⟨v, a1, a2, a3, a4⟩ := h3 m y e'
      exact ⟨v, a1, a2, by omega, by simp; omega⟩
    · cases h

def aMap (h : H) : AV → Option (List (AV × AV))
  | .nilm => some []
  | .m b => match h.get b with
    | some (.map es) => some es
    | _ => none
  | _ => none
def aLookup (E : Env) (h : H) (t : TypeId) (x k : AV) (ok : Bool) : Option AV := match E.ty t with
  | some i => match i.desc with
    | .map kt et => match E.ty kt, E.ty et, aMap h x with
      | some ki, some ei, some es => if keyDesc ki.desc k then (match findA k es 0 with
        | some (some (_, y)) => some (if ok then .tup [y, .b true] else y)
        | some none => some (if ok then .tup [ei.zv, .b false] else ei.zv)
        | none => none) else none
      | _, _, _ => none
    | _ => none
  | none => none
theorem checkKey_ok (ok : E.Ok) {kt : TypeId} {ki : TI} (hk : E.ty kt = some ki) {k : AV} (hd : keyDesc ki.desc k = true) {v : Value} (hv : RelV σ A M k v) (e : Bool) : (Instr.checkKey e 10000 kt v).run E.P w = .ok () w := by
  have hu := ok.und w hk
  show (Instr.checkKey e (9999 + 1) kt v).run E.P w = .ok () w
  generalize (9999 : Nat) = n
  cases hdd : ki.desc <;> rw [hdd] at hd hu <;> cases k <;> simp [keyDesc] at hd <;> cases hv <;> simp [Instr.checkKey, hu]
theorem aMap_ok (r : RelH σ A M w h) {x : AV} {es : List (AV × AV)} (hx : aMap h x = some es) {v : Value} (hv : RelV σ A M x v) :
    (v = .map none ∧ es = []) ∨ ∃ b entries clock, x = .m b ∧ v = .map (some (σ b).blk) ∧ h.get b = some (.map es) ∧ w.heap[(σ b).blk]? = some (.map entries clock) ∧ RelE σ A M es entries.toList := by
  unfold aMap at hx
  split at hx
  · cases hv; cases hx; exact .inl ⟨rfl, rfl⟩
  · rename_i b
    split at hx
    case h_2 => cases hx
    rename_i es' hb
    cases hx
    cases hv with | m _ hA rr hr =>
    subst hr
    obtain ⟨en, cl, g1, g2⟩ := r.blk b _ hb
    exact .inr ⟨b, en, cl, rfl, rfl, hb, g1, g2⟩
  · cases hx
theorem aLookup_ok (ok : E.Ok) (r : RelH σ A M w h) {t : TypeId} {x k z : AV} {c : Bool} (hx : aLookup E h t x k c = some z) {v u : Value} (hv : RelV σ A M x v) (hu : RelV σ A M k u) : ∃ q, (Instr.lookup t v u c).run E.P w = .ok q w ∧ RelV σ A M z q := by
  unfold aLookup at hx
  split at hx
  case h_2 => cases hx
  rename_i i hi
  have hund := ok.und w hi
  split at hx
  case h_2 => cases hx
  rename_i kt et hd
  rw [hd] at hund
  split at hx
  case h_2 => cases hx
  rename_i ki ei es hki hei hes
  split at hx
  case isFalse => cases hx
  rename_i hkd
  have hcheck := fun e => checkKey_ok (w := w) ok hki hkd hu e
  have hki' := ok.und w hki
  have hentries : ∃ entries : Array MapEntry, RelE σ A M es entries.toList ∧ ((v = .map none ∧ entries = #[]) ∨ ∃ r cl, v = .map (some r) ∧ (getObj r).run E.P w = .ok (.map entries cl) w) := by
    rcases aMap_ok r hes hv with ⟨rfl, rfl⟩ | ⟨b, en, cl, rfl, rfl, hb, g1, g2⟩
    · exact ⟨#[], .nil, .inl ⟨rfl, rfl⟩⟩
    · exact ⟨en, g2, .inr ⟨_, cl, rfl, by simp [getObj, Sem.run, g1]⟩⟩
  obtain ⟨entries, g2, g3⟩ := hentries
  have hrun : ∀ (r' : Option (Nat × Value)) (q : Value), Instr.findNow ki.desc u entries.toList 0 = some r' → (match r' with | some (_, v) => q = (if c then .tuple #[v, .bool true] else v) | none => q = (if c then .tuple #[ei.zero, .bool false] else ei.zero)) → (Instr.lookup t v u c).run E.P w = .ok q w := by
    intro r' q hf hq
    rcases g3 with ⟨rfl, rfl⟩ | ⟨rr, cl, rfl, hg⟩
    · cases r' with
      | none => simp only [] at hq; subst hq; simp at hf; simp [Instr.lookup, hund, hcheck, Instr.findKey, hki', hf, ok.zer w hei]
      | some p => obtain ⟨n, y⟩ := p; simp [Instr.findNow] at hf
    · cases r' with
      | none => simp only [] at hq; subst hq; simp [Instr.lookup, hund, hg, hcheck, Instr.findKey, hki', hf, ok.zer w hei]
      | some p => obtain ⟨n, y⟩ := p; simp only [] at hq; subst hq; simp [Instr.lookup, hund, hg, hcheck, Instr.findKey, hki', hf]
  split at hx
  · rename_i n y hf
    cases hx
    obtain ⟨r', h1, _, h3⟩ := findA_ok hkd hu g2 hf
    obtain ⟨yv, e1, e2, _⟩ := h3 _ _ rfl
    subst e1
    refine ⟨_, hrun _ _ h1 rfl, ?_⟩
    cases c
    · exact e2
    · exact .tup _ _ (.cons _ _ _ _ e2 (.cons _ _ _ _ (.b true) .nil))
  · rename_i hf
    cases hx
    obtain ⟨r', h1, h2, _⟩ := findA_ok hkd hu g2 hf
    have := h2 rfl
    subst this
    refine ⟨_, hrun _ _ h1 rfl, ?_⟩
    cases c
    · exact rel_ofV _
    · exact .tup _ _ (.cons _ _ _ _ (rel_ofV _) (.cons _ _ _ _ (.b false) .nil))
  · cases hx

def aUpdate (E : Env) (h : H) (t : TypeId) (x k y : AV) : Option H := match E.ty t, x with
  | some i, .m b => match i.desc with
    | .map kt et => match E.ty kt, h.get b with
      | some ki, some (.map es) => if keyDesc ki.desc k then (match findA k es 0 with
        | some (some (n, _)) => h.write b (.map (st es n (k, y)))
        | some none => h.write b (.map (ap es [(k, y)]))
        | none => none) else none
      | _, _ => none
    | _ => none
  | _, _ => none
theorem RelE.snoc {xs : List (AV × AV)} {es : List MapEntry} (r : RelE σ A M xs es) {k x : AV} {e : MapEntry} (hk : RelV σ A M k e.key) (hx : RelV σ A M x e.val) : RelE σ A M (xs ++ [(k, x)]) (es ++ [e]) := by
  induction r with
  | nil => exact .cons _ _ _ _ _ hk hx .nil
  | cons k' x' e' xs es h1 h2 t ih => exact .cons _ _ _ _ _ h1 h2 ih
theorem RelE.set {xs : List (AV × AV)} {es : List MapEntry} (r : RelE σ A M xs es) {k x : AV} (f : MapEntry → MapEntry) (hk : ∀ e, RelV σ A M k (f e).key) (hx : ∀ e, RelV σ A M x (f e).val) : ∀ n, RelE σ A M (xs.set n (k, x)) (es.modify n f) := by
  induction r with
  | nil => intro n; simpa using RelE.nil
  | cons k' x' e' xs es h1 h2 t ih =>
    intro n
    cases n with
    | zero => exact .cons _ _ _ _ _ (hk _) (hx _) t
    | succ n => exact .cons _ _ _ _ _ h1 h2 (ih n)
theorem findA_key {d : TypeDesc} {k : AV} (hd : keyDesc d k = true) : ∀ {xs : List (AV × AV)} {n m : Nat} {y : AV}, findA k xs n = some (some (m, y)) → ∃ k' y', n ≤ m ∧ xs[m - n]? = some (k', y') ∧ keyEq k k' = some true
  | [], n, m, y, h => by simp [findA] at h
  | (k', x) :: xs, n, m, y, h => by
    simp only [findA] at h
    split at h
    · rename_i hq
      cases h
      exact ⟨k', x, Nat.le_refl _, by simp, hq⟩
    · obtain ⟨k2, y2, a1, a2, a3⟩ := findA_key hd h
      refine ⟨k2, y2, by omega, ?_, a3⟩
      have : m - n = (m - (n + 1)) + 1 := by omega
      rw [this]
      simpa using a2
    · cases h
theorem RelE.at {xs : List (AV × AV)} {es : List MapEntry} (r : RelE σ A M xs es) : ∀ {n : Nat} {k x : AV}, xs[n]? = some (k, x) → ∃ e, es[n]? = some e ∧ RelV σ A M k e.key := by
  induction r with
  | nil => intro n k x h; simp at h
  | cons k' x' e' xs es h1 h2 t ih =>
    intro n k x h
    cases n with
    | zero => simp at h; obtain ⟨rfl, rfl⟩ := h; exact ⟨e', rfl, h1⟩
    | succ n => simpa using ih (by simpa using h)

theorem sameBits_of {k k' : AV} (hq : keyEq k k' = some true) {v u : Value} (hv : RelV σ A M k v) (hu : RelV σ A M k' u) : Instr.sameBits 10000 u v = true := by
  unfold keyEq at hq
  simp only [tk_eq, dp_eq, ap_eq, ln_eq, nt_eq, mp_eq, al_eq, st_eq, rpl_eq, eqN_eq, iLe_eq, iLt_eq, iEq_beq, bNot_eq, iAdd_eq, iSub_eq, wr_eq, cond_eq_if, ble_dec, natBeq] at hq
  split at hq
  · cases hv with | s _ s e1 => cases hu with | s _ s' e2 =>
    simp only [Option.some.injEq, beq_iff_eq] at hq
    have : s = s' := nb_inj (by rw [e1, e2, hq])
    subst this
    simp only [Instr.sameBits, beq_toListBytes]
    simp
  · split at hq
    · rename_i e; subst e
      cases hv; cases hu
      simp only [Option.some.injEq, beq_iff_eq] at hq
      subst hq
      simp [Instr.sameBits]
    · cases hq
  · cases hv; cases hu
    simp only [Option.some.injEq, beq_iff_eq] at hq
    subst hq
    simp [Instr.sameBits]
  · cases hq

theorem aUpdate_ok (ok : E.Ok) (r : RelH σ A M w h) {t : TypeId} {x k y : AV} {h' : H} (hx : aUpdate E h t x k y = some h') {v u q : Value} (hv : RelV σ A M x v) (hu : RelV σ A M k u) (hq : RelV σ A M y q) :
    ∃ w', (Instr.mapUpdate t v u q).run E.P w = .ok () w' ∧ Step σ A w h σ A w' h' ∧ RelH σ A M w' h' := by
  unfold aUpdate at hx
  simp only [tk_eq, dp_eq, ap_eq, ln_eq, nt_eq, mp_eq, al_eq, st_eq, rpl_eq, eqN_eq, iLe_eq, iLt_eq, iEq_beq, bNot_eq, iAdd_eq, iSub_eq, wr_eq, cond_eq_if, ble_dec, natBeq] at hx
  split at hx
  case h_2 => cases hx
  rename_i i b hi
  have hund := ok.und w hi
  split at hx
  case h_2 => cases hx
  rename_i kt et hd
  rw [hd] at hund
  split at hx
  case h_2 => cases hx
  rename_i ki es hki hb
  split at hx
  case isFalse => cases hx
  rename_i hkd
  have hcheck := checkKey_ok (w := w) ok hki hkd hu false
  have hki' := ok.und w hki
  cases hv with | m _ hA rr hr =>
  subst hr
  obtain ⟨en, cl, g1, g2⟩ := r.blk b _ hb
  have hg : (getObj (σ b).blk).run E.P w = .ok (.map en cl) w := by simp [getObj, Sem.run, g1]
  have hlt : (σ b).blk < w.heap.size := (Array.getElem?_eq_some_iff.1 g1).1
  have hset : ∀ o, (setObj (σ b).blk o).run E.P w = .ok () (World.setBlk w (σ b).blk o) := fun o => by simp [setObj, Sem.run, g1, World.setBlk]
  split at hx
  · rename_i n y0 hf
    obtain ⟨r', h1, _, h3⟩ := findA_ok hkd hu g2 hf
    obtain ⟨yv, e1, e2, _, _⟩ := h3 _ _ rfl
    subst e1
    obtain ⟨k', y', _, hat, hqk⟩ := findA_key hkd hf
    simp only [Nat.sub_zero] at hat
    obtain ⟨e0, he0, hke⟩ := g2.at hat
    have he0' : en[n]? = some e0 := by simpa using he0
    have hstay : (Instr.keyThatStays (((en[n]?).map (·.key)).getD u) u).run E.P w = .ok u w := by
      rw [he0']
      simp [Instr.keyThatStays, sameBits_of hqk hu hke]
    refine ⟨World.setBlk w (σ b).blk (.map (en.modify n fun e => { e with key := u, val := q }) cl), ?_, ?_⟩
    · simp [Instr.mapUpdate, hund, hg, hcheck, Instr.findKey, hki', h1, hstay, hset]
    · refine write_ok r hb rfl hx rfl rfl rfl (by simp [World.setBlk]) (fun j hj => setBlk_ne w _ j _ hj) ⟨_, cl, setBlk_same w _ _ hlt, ?_⟩
      rw [Array.toList_modify]
      exact g2.set _ (fun _ => hu) (fun _ => hq) n
  · rename_i hf
    obtain ⟨r', h1, h2, _⟩ := findA_ok hkd hu g2 hf
    have := h2 rfl
    subst this
    refine ⟨World.setBlk w (σ b).blk (.map (en.push { key := u, val := q, born := cl }) (cl + 1)), ?_, ?_⟩
    · simp [Instr.mapUpdate, hund, hg, hcheck, Instr.findKey, hki', h1, hset]
    · refine write_ok r hb rfl hx rfl rfl rfl (by simp [World.setBlk]) (fun j hj => setBlk_ne w _ j _ hj) ⟨_, _, setBlk_same w _ _ hlt, ?_⟩
      rw [Array.toList_push]
      exact g2.snoc hu hq
  · cases hx
end
end
end Go.Proofs.YtnamonkinpdgdaaGreatDoor.XI
