/- What an operation looks at; operations that change nothing. Part of a verified reckoner of runs: no condition. -/
import Derived.Test.YtfaemheimmndgaaGreatDoorXL
set_option linter.unusedVariables false
set_option linter.unusedSimpArgs false
namespace Go.Proofs.YtfaemheimmndgaaGreatDoor.XI
noncomputable section

/-! ### 12. What an operation looks at -/
def fm {α β : Type} (f : α → List β) (l : List α) : List β := List.rec (motive := fun _ => List β) [] (fun x _ ih => ap (f x) ih) l
theorem mem_fm {α β : Type} {f : α → List β} {l : List α} {x : α} {y : β} (hx : x ∈ l) (hy : y ∈ f x) : y ∈ fm f l := by
  induction l with
  | nil => cases hx
  | cons z l ih =>
    show y ∈ ap (f z) (fm f l)
    rw [ap_eq, List.mem_append]
    rcases List.mem_cons.1 hx with rfl | hx
    · exact .inl hy
    · exact .inr (ih hx)
def tmpOf (x : Operand) : List Nat := match x with | .tmp t => [t] | _ => []
def optT (x : Option Operand) : List Nat := match x with | some x => tmpOf x | none => []
def callTmps (c : Call) : List Nat := ap (match c.callee with | .value f => tmpOf f | .invoke x _ => tmpOf x | _ => []) (fm tmpOf c.args.toList)
def opTmps (o : Op) : List Nat := match o with
  | .move x | .assign x | .box _ x | .load _ x | .nilCheck x | .unOp _ _ x | .convert _ _ x | .sliceToArrayPointer _ x | .makeInterface _ x | .fieldAddr _ x _ | .field _ x _ | .extract x _ | .range _ x | .next x _ | .entry x => tmpOf x
  | .pick c a b => ap (tmpOf c) (ap (tmpOf a) (tmpOf b))
  | .build _ ps | .buildSlice _ _ ps => fm (fun p => tmpOf p.2) ps.toList
  | .store _ a v | .binOp _ _ a v _ | .makeSlice _ a v | .indexAddr _ a v | .index _ a v | .lookup _ a v _ => ap (tmpOf a) (tmpOf v)
  | .makeFunc _ a b => ap (fm tmpOf a.toList) (fm tmpOf b.toList)
  | .slice _ x l h m => ap (tmpOf x) (ap (optT l) (ap (optT h) (optT m)))
  | .mapUpdate _ m k v | .insert _ m k v => ap (tmpOf m) (ap (tmpOf k) (tmpOf v))
  | .call c => callTmps c
  | _ => []

section
variable {fr fr' : Fr} {E : Env} {h : H}
/-- Both frames say the same of these. -/
def Same (fr fr' : Fr) (ts : List Nat) : Prop := ∀ t ∈ ts, fr.get t = fr'.get t
theorem Same.l {a b : List Nat} (s : Same fr fr' (ap a b)) : Same fr fr' a := fun t ht => s t (by rw [ap_eq]; exact List.mem_append_left _ ht)
theorem Same.r {a b : List Nat} (s : Same fr fr' (ap a b)) : Same fr fr' b := fun t ht => s t (by rw [ap_eq]; exact List.mem_append_right _ ht)
theorem Same.ev {x : Operand} (s : Same fr fr' (tmpOf x)) : ev fr x = ev fr' x := by
  cases x with
  | tmp t => simp only [XI.ev]; rw [s t (by simp [tmpOf])]
  | _ => rfl
theorem Same.opt {x : Option Operand} (s : Same fr fr' (optT x)) : optE fr x = optE fr' x := by
  cases x with
  | none => rfl
  | some x => simp only [optE]; rw [Same.ev s]
theorem Same.all {xs : List Operand} (s : Same fr fr' (fm tmpOf xs)) : mp (XI.ev fr) xs = mp (XI.ev fr') xs := by
  rw [mp_eq, mp_eq]
  exact List.map_congr_left fun x hx => Same.ev fun t ht => s t (mem_fm hx ht)
theorem Same.parts {xs : List (Nat × Operand)} (s : Same fr fr' (fm (fun p => tmpOf p.2) xs)) : mp (fun p => (p.1, XI.ev fr p.2)) xs = mp (fun p => (p.1, XI.ev fr' p.2)) xs := by
  rw [mp_eq, mp_eq]
  exact List.map_congr_left fun x hx => by rw [Same.ev (x := x.2) fun t ht => s t (mem_fm (f := fun p : Nat × Operand => tmpOf p.2) hx ht)]

theorem aCall_congr {c : Call} (s : Same fr fr' (callTmps c)) : aCall E fr h c = aCall E fr' h c := by
  unfold aCall callTmps at *
  cases hc : c.callee with
  | invoke x nm =>
    rw [hc] at s
    simp only
    rw [Same.ev (x := x) s.l, Same.all s.r]
  | value f =>
    rw [hc] at s
    simp only
    rw [Same.ev (x := f) s.l, Same.all s.r]
  | builtin b =>
    rw [hc] at s
    simp only
    have s := s.r
    generalize c.args.toList = xs at s
    generalize c.argTypes.toList = ts
    have hm : ∀ {y : Operand} {ys : List Operand}, Same fr fr' (fm tmpOf (y :: ys)) → ev fr y = ev fr' y ∧ Same fr fr' (fm tmpOf ys) := fun s =>
      ⟨Same.ev (Same.l s), Same.r s⟩
    cases xs with
    | nil => cases b <;> rfl
    | cons x xs =>
      obtain ⟨e1, s1⟩ := hm s
      have e2 := Same.all s1
      cases b <;> (try rfl)
      case min => simp only [aBuiltin, e1, e2]
      case max => simp only [aBuiltin, e1, e2]
      case len =>
        cases xs with
        | nil => cases ts with
          | nil => rfl
          | cons t ts => simp only [aBuiltin, e1]
        | cons y ys => cases ts <;> rfl
      case append =>
        cases xs with
        | nil => rfl
        | cons y ys =>
          obtain ⟨e3, _⟩ := hm s1
          cases ys with
          | cons z zs => rfl
          | nil => cases ts with
            | nil => rfl
            | cons t ts => cases ts with
              | nil => rfl
              | cons u us => cases us with
                | nil => simp only [aBuiltin, e1, e3]
                | cons _ _ => rfl
      case copy =>
        cases xs with
        | nil => cases ts <;> rfl
        | cons y ys =>
          obtain ⟨e3, _⟩ := hm s1
          cases ys with
          | cons z zs => cases ts <;> rfl
          | nil => cases ts with
            | nil => rfl
            | cons t ts => simp only [aBuiltin, e1, e3]
      case delete =>
        cases xs with
        | nil => cases ts <;> rfl
        | cons y ys =>
          obtain ⟨e3, _⟩ := hm s1
          cases ys with
          | cons z zs => cases ts <;> rfl
          | nil => cases ts with
            | nil => rfl
            | cons t ts => simp only [aBuiltin, e1, e3]

theorem aop_congr {o : Op} (s : Same fr fr' (opTmps o)) : aop o E fr h = aop o E fr' h := by
  cases o <;> (try rfl) <;> simp only [opTmps] at s <;> dsimp only [aop]
  case move x => simp only [hMove, s.ev]
  case assign x => simp only [hMove, s.ev]
  case pick c a b => simp only [hPick, Same.ev s.l, Same.ev s.r.l, Same.ev s.r.r]
  case box t x => simp only [hBox, s.ev]
  case build t ps => simp only [hBuild, s.parts]
  case buildSlice t n ps => simp only [hBuildSlice, s.parts]
  case insert t m k v => simp only [hUpdate, Same.ev s.l, Same.ev s.r.l, Same.ev s.r.r]
  case load t x => simp only [hLoad, s.ev]
  case store t x y => simp only [hStore1, Same.ev s.l, Same.ev s.r]
  case nilCheck x => simp only [hNilCheck, s.ev]
  case binOp op t x y u => simp only [hBin, Same.ev s.l, Same.ev s.r]
  case unOp op t x => simp only [hUn, s.ev]
  case convert a b x => simp only [hConvert, s.ev]
  case sliceToArrayPointer t x => simp only [hArr, s.ev]
  case makeInterface t x => simp only [hMakeInterface, s.ev]
  case makeFunc g a b => simp only [hMakeFunc, Same.all s.l, Same.all s.r]
  case makeMap t r => cases r <;> rfl
  case makeSlice t a b => simp only [hMakeSlice, Same.ev s.l, Same.ev s.r]
  case slice t x l hh m => cases m with
    | some m => simp only [hSlice, Same.ev s.l, Same.opt s.r.l, Same.opt s.r.r.l, Same.ev (x := m) s.r.r.r]
    | none => simp only [hSlice, Same.ev s.l, Same.opt s.r.l, Same.opt s.r.r.l]
  case fieldAddr t x f => simp only [hFieldAddr, s.ev]
  case field t x f => simp only [hField, s.ev]
  case indexAddr t x y => simp only [hIndexAddr, Same.ev s.l, Same.ev s.r]
  case index t x y => simp only [hIndex, Same.ev s.l, Same.ev s.r]
  case lookup t x k c => simp only [hLookup, Same.ev s.l, Same.ev s.r]
  case mapUpdate t m k v => simp only [hUpdate, Same.ev s.l, Same.ev s.r.l, Same.ev s.r.r]
  case extract x n => simp only [hExtract, s.ev]
  case range t x => simp only [hRange, s.ev]
  case next x b => simp only [hNext, s.ev]
  case entry x => simp only [hEntry, s.ev]
  case call c => simp only [hCall, aCall_congr s]

/-! Operations that change nothing. -/
def valOf (r : Option ORes) : Option AV := match r with | some (.val v _) => some v | _ => none
def rConvert (src dst : TypeId) (x : Operand) : Env → Fr → H → Option AV := fun E fr h => match aConv E src dst (ev fr x) with
    | some v => some v
    | none => aToStr E h src dst (ev fr x)
def isRdB (b : Builtin) : Bool := match b with | .len | .min | .max => true | _ => false
def rCall (c : Call) : Env → Fr → H → Option AV := match c.callee with
  | .builtin b => fun E fr h => cond (isRdB b) (valOf (hCall c E fr h)) none
  | _ => fun _ _ _ => none
def rdo (o : Op) : Env → Fr → H → Option AV := match o with
  | .convert a b x => rConvert a b x
  | .call c => rCall c
  | .move _ | .assign _ | .pick .. | .build .. | .load .. | .nilCheck _ | .binOp .. | .unOp .. | .sliceToArrayPointer .. | .makeInterface .. | .makeFunc .. | .slice .. | .fieldAddr .. | .field .. | .indexAddr .. | .index .. | .lookup .. | .extract .. => fun E fr h => valOf (aop o E fr h)
  | _ => fun _ _ _ => none

theorem valOf_keep {o : Option AV} {v : AV} (hx : valOf (keep h o) = some v) : keep h o = some (.val v h) := by
  cases o <;> simp [valOf, keep] at hx ⊢
  exact hx

theorem none_val {v : AV} (h : (none : Option AV) = some v) : False := nomatch h
theorem rdo_ok {o : Op} {v : AV} (hx : rdo o E fr h = some v) : aop o E fr h = some (.val v h) := by
  cases o <;> (try (exact (none_val hx).elim))
  case convert a b x =>
    have hx : rConvert a b x E fr h = some v := hx
    unfold rConvert at hx
    show hConvert a b x E fr h = _
    unfold hConvert
    split at hx
    · rename_i u hu; cases hx; rw [hu]
    · rename_i hu; rw [hu]; simp only; rw [hx]
  case call c =>
    have hx : rCall c E fr h = some v := hx
    unfold rCall at hx
    show hCall c E fr h = _
    have k1 : ∀ xs ts, valOf (aBuiltin E fr h .len xs ts) = some v → aBuiltin E fr h .len xs ts = some (.val v h) := fun xs ts hx =>
      match xs, ts, hx with
      | [x], t :: ts, hx => valOf_keep hx
    have k2 : ∀ xs ts, valOf (aBuiltin E fr h .min xs ts) = some v → aBuiltin E fr h .min xs ts = some (.val v h) := fun xs ts hx =>
      match xs, ts, hx with
      | x :: xs, ts, hx => valOf_keep hx
    have k3 : ∀ xs ts, valOf (aBuiltin E fr h .max xs ts) = some v → aBuiltin E fr h .max xs ts = some (.val v h) := fun xs ts hx =>
      match xs, ts, hx with
      | x :: xs, ts, hx => valOf_keep hx
    cases hc : c.callee with
    | invoke _ _ => rw [hc] at hx; cases hx
    | value f => rw [hc] at hx; cases hx
    | builtin b =>
      rw [hc] at hx
      have hx : cond (isRdB b) (valOf (hCall c E fr h)) none = some v := hx
      rw [cond_eq_if] at hx
      split at hx
      case isFalse => cases hx
      rename_i hb
      unfold hCall aCall at hx ⊢
      rw [hc] at hx ⊢
      cases b <;> (try (exact Bool.noConfusion (show false = true from hb)))
      case len => exact k1 _ _ hx
      case min => exact k2 _ _ hx
      case max => exact k3 _ _ hx
  case move x => cases hx; rfl
  case assign x => cases hx; rfl
  case pick c a b =>
    have hx : valOf (hPick c a b E fr h) = some v := hx
    show hPick c a b E fr h = _
    unfold hPick at hx ⊢
    split at hx
    · cases hx; rfl
    · cases hx
  case build => exact valOf_keep hx
  case load => exact valOf_keep hx
  case nilCheck x =>
    have hx : valOf (hNilCheck x E fr h) = some v := hx
    show hNilCheck x E fr h = _
    unfold hNilCheck at hx ⊢
    cases hk : okNil (ev fr x) <;> rw [hk] at hx
    · cases hx
    · cases hx; rfl
  case binOp op t x y u =>
    have hx : valOf (hBin op t x y u E fr h) = some v := hx
    show hBin op t x y u E fr h = _
    unfold hBin at hx ⊢
    cases hk : aggOk E t (ev fr x) (ev fr y) <;> rw [hk] at hx
    · cases hx
    · exact valOf_keep hx
  case unOp => exact valOf_keep hx
  case sliceToArrayPointer => exact valOf_keep hx
  case makeInterface t x =>
    have hx : valOf (hMakeInterface t x E fr h) = some v := hx
    show hMakeInterface t x E fr h = _
    unfold hMakeInterface at hx ⊢
    split at hx
    · split at hx
      · cases hx
      · cases hx; rfl
    · cases hx
  case makeFunc => cases hx; rfl
  case slice t x l hh m =>
    cases m with
    | some _ => exact valOf_keep hx
    | none => exact valOf_keep hx
  case fieldAddr => exact valOf_keep hx
  case field => exact valOf_keep hx
  case indexAddr => exact valOf_keep hx
  case index => exact valOf_keep hx
  case lookup => exact valOf_keep hx
  case extract => exact valOf_keep hx

/-- It doesn't look at the heap at all. -/
def blind (o : Op) : Bool := match o with
  | .move _ | .assign _ | .pick .. | .build .. | .nilCheck _ | .binOp .. | .unOp .. | .sliceToArrayPointer .. | .makeInterface .. | .makeFunc .. | .fieldAddr .. | .field .. | .indexAddr .. | .index .. | .extract .. => true
  | _ => false
theorem valOf_keep2 {o : Option AV} (h h2 : H) : valOf (keep h o) = valOf (keep h2 o) := by cases o <;> rfl
theorem blind_any {o : Op} (hb : blind o = true) (h h2 : H) : rdo o E fr h = rdo o E fr h2 := by
  cases o <;> (try (exact Bool.noConfusion (show false = true from hb))) <;> (try rfl) <;> (try (exact valOf_keep2 h h2))
  case pick c a b =>
    show valOf (hPick c a b E fr h) = valOf (hPick c a b E fr h2)
    unfold hPick
    cases ev fr c <;> rfl
  case nilCheck x =>
    show valOf (hNilCheck x E fr h) = valOf (hNilCheck x E fr h2)
    unfold hNilCheck
    cases okNil (ev fr x) <;> rfl
  case binOp op t x y u =>
    show valOf (hBin op t x y u E fr h) = valOf (hBin op t x y u E fr h2)
    unfold hBin
    cases aggOk E t (ev fr x) (ev fr y)
    · rfl
    · exact valOf_keep2 h h2
  case makeInterface t x =>
    show valOf (hMakeInterface t x E fr h) = valOf (hMakeInterface t x E fr h2)
    unfold hMakeInterface
    cases E.ty t with
    | none => rfl
    | some i => cases hd : i.desc <;> simp only [hd] <;> rfl
end
end
end Go.Proofs.YtfaemheimmndgaaGreatDoor.XI
