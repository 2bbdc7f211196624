/- One operation. Part of a verified reckoner of runs: no condition. -/
import Derived.Test.YtfaemheimmndgaaGreatDoorXH
import Derived.RangeFuncRecord
import Derived.AtR
import Derived.TacticsIn
import Derived.LoopNIn
import Derived.OrdersIn
import Derived.RangeFuncCalls
set_option linter.unusedVariables false
set_option linter.unusedSimpArgs false
namespace Go.Proofs.YtfaemheimmndgaaGreatDoor.XI
noncomputable section

/-! ### 8. One operation -/
inductive ORes where
  | val (v : AV) (h : H)
  | call (f : FuncId) (args : List AV)
  | round (b : Nat) (args : List AV)

def keep (h : H) : Option AV → Option ORes
  | some v => some (.val v h)
  | none => none
def made : Option (AV × H) → Option ORes
  | some (v, h) => some (.val v h)
  | none => none
def done : Option H → Option ORes
  | some h => some (.val .undef h)
  | none => none

def okNil : AV → Bool
  | .p _ _ | .rp _ | .ifc _ _ => true
  | .fn (.func _) _ _ => true
  | _ => false

def aBuiltin (E : Env) (fr : Fr) (h : H) (b : Builtin) (args : List Operand) (ts : List TypeId) : Option ORes :=
  match b, args, ts with
  | .append, [x, y], [t, u] => made (aAppend E h t u (ev fr x) (ev fr y))
  | .len, [x], t :: _ => keep h (aLen E h t (ev fr x))
  | .copy, [x, y], t :: _ => made (aCopy E h t (ev fr x) (ev fr y))
  | .delete, [x, y], t :: _ => made (aDelete E h t (ev fr x) (ev fr y))
  | .min, x :: ys, _ => keep h (aMm false (ev fr x) (mp (ev fr) ys))
  | .max, x :: ys, _ => keep h (aMm true (ev fr x) (mp (ev fr) ys))
  | _, _, _ => none

def aCall (E : Env) (fr : Fr) (h : H) (c : Call) : Option ORes :=
  match c.callee with
  | .builtin b => aBuiltin E fr h b c.args.toList c.argTypes.toList
  | .value f => match ev fr f with
    | .fn (.func g) fs cs => match E.fn g with
      | some _ => some (.call g (ap fs (ap (mp (ev fr) c.args.toList) cs)))
      | none => keep h (E.ext g (ap fs (ap (mp (ev fr) c.args.toList) cs)))
    | .yl b => some (.round b (mp (ev fr) c.args.toList))
    | _ => none
  | .invoke x name => match ev fr x with
    | .ifc t v => match E.meth t name with
      | some g => match E.fn g with
        | some _ => some (.call g (v :: mp (ev fr) c.args.toList))
        | none => none
      | none => none
    | _ => none

/-- A slice as a pointer to an array. -/
def aArr (E : Env) (t : TypeId) (x : AV) : Option AV := match E.ty t, x with
  | some i, .sl b o n _ _ => match i.desc with
    | .array m _ => cond (and (Nat.ble m n) (Nat.ble 1 m)) (some (.p b o)) none
    | _ => none
  | _, _ => none

def optE (fr : Fr) (x : Option Operand) : Option AV := match x with | some x => some (ev fr x) | none => none

/-! One handler each. -/
abbrev Hd := Env → Fr → H → Option ORes
def hNone : Hd := fun _ _ _ => none
def hMove (x : Operand) : Hd := fun _ fr h => some (.val (ev fr x) h)
def hPick (c a b : Operand) : Hd := fun _ fr h => match ev fr c with
  | .b t => some (.val (cond t (ev fr a) (ev fr b)) h)
  | _ => none
def hAlloc (t : TypeId) : Hd := fun E fr h => made (aAlloc E h t)
def hBox (_ : TypeId) (x : Operand) : Hd := fun E fr h => made (aBox h (ev fr x))
def hBuild (t : TypeId) (parts : Array (Nat × Operand)) : Hd := fun E fr h => keep h (aBuild E t (mp (fun p => (p.1, ev fr p.2)) parts.toList))
def hBuildSlice (t : TypeId) (len : Nat) (parts : Array (Nat × Operand)) : Hd := fun E fr h => made (aBuildSlice E h t len (mp (fun p => (p.1, ev fr p.2)) parts.toList))
def hLoad (t : TypeId) (x : Operand) : Hd := fun E fr h => keep h (aLoad E h t (ev fr x))
def hStore1 (t : TypeId) (x y : Operand) : Hd := fun E fr h => done (aStore E h t (ev fr x) (ev fr y))
def hNilCheck (x : Operand) : Hd := fun E fr h => cond (okNil (ev fr x)) (some (.val (ev fr x) h)) none
def hBin (op : BinOp) (t : TypeId) (x y : Operand) (_ : TypeId) : Hd := fun E fr h => cond (aggOk E t (ev fr x) (ev fr y)) (keep h (aBin E op t (isK x) (isK y) (ev fr x) (ev fr y))) none
def hUn (op : UnOp) (_ : TypeId) (x : Operand) : Hd := fun E fr h => keep h (aUn op (ev fr x))
def hConvert (src dst : TypeId) (x : Operand) : Hd := fun E fr h => match aConv E src dst (ev fr x) with
    | some v => some (.val v h)
    | none => match aToStr E h src dst (ev fr x) with
      | some v => some (.val v h)
      | none => made (aToBytes E h src dst (ev fr x))
def hMakeInterface (t : TypeId) (x : Operand) : Hd := fun E fr h => match E.ty t with
    | some i => match i.desc with
      | .interface _ => none
      | _ => some (.val (.ifc t (ev fr x)) h)
    | none => none
def hMakeFunc (g : Fn) (first cap : Array Operand) : Hd := fun E fr h => some (.val (.fn g (mp (ev fr) first.toList) (mp (ev fr) cap.toList)) h)
def hMakeMap (_ : TypeId) (r : Option Operand) : Hd := match r with
  | none => fun E fr h => some (.val (aMakeMap h).1 (aMakeMap h).2)
  | some _ => hNone
def hMakeSlice (t : TypeId) (l c : Operand) : Hd := fun E fr h => made (aMakeSlice E h t (ev fr l) (ev fr c))
def hSlice (t : TypeId) (x : Operand) (lo hi mx : Option Operand) : Hd := match mx with
  | none => fun E fr h => keep h (aSlice E h t (ev fr x) (optE fr lo) (optE fr hi))
  | some m => fun E fr h => keep h (aSlice3 E t (ev fr x) (optE fr lo) (optE fr hi) (ev fr m))
def hFieldAddr (t : TypeId) (x : Operand) (f : Nat) : Hd := fun E fr h => keep h (aFieldAddr E t (ev fr x) f)
def hField (t : TypeId) (x : Operand) (f : Nat) : Hd := fun E fr h => keep h (aField E t (ev fr x) f)
def hIndexAddr (t : TypeId) (x y : Operand) : Hd := fun E fr h => keep h (aIndexAddr E t (ev fr x) (ev fr y))
def hIndex (t : TypeId) (x y : Operand) : Hd := fun E fr h => keep h (aIndex E t (ev fr x) (ev fr y))
def hLookup (t : TypeId) (x k : Operand) (c : Bool) : Hd := fun E fr h => keep h (aLookup E h t (ev fr x) (ev fr k) c)
def hUpdate (t : TypeId) (x k y : Operand) : Hd := fun E fr h => done (aUpdate E h t (ev fr x) (ev fr k) (ev fr y))
def hRange (t : TypeId) (x : Operand) : Hd := fun E fr h => made (aRange E h t (ev fr x))
def hNext (x : Operand) (s : Bool) : Hd := fun E fr h => made (aNext h (ev fr x) s)
def hEntry (x : Operand) : Hd := fun E fr h => keep h (aEntry h (ev fr x))
def hExtract (x : Operand) (n : Nat) : Hd := fun E fr h => keep h (aExtract (ev fr x) n)
def hArr (t : TypeId) (x : Operand) : Hd := fun E fr h => keep h (aArr E t (ev fr x))
def hCall (c : Call) : Hd := fun E fr h => aCall E fr h c
def aop (o : Op) : Hd := Op.rec (motive := fun _ => Hd)
  hMove hMove hPick hAlloc hBox hBuild hBuildSlice hUpdate hLoad hStore1 (fun _ => hNone) (fun _ => hNone) hNilCheck
  hBin hUn hConvert hArr hMakeInterface hMakeFunc hMakeMap (fun _ _ => hNone) hMakeSlice hSlice hFieldAddr hField hIndexAddr hIndex hLookup hUpdate
  (fun _ _ _ => hNone) (fun _ _ _ _ => hNone) hRange hNext hEntry (fun _ _ _ _ => hNone) hExtract hCall (fun _ => hNone) (fun _ => hNone) (fun _ => hNone) (fun _ _ => hNone) (fun _ _ _ => hNone) (fun _ _ => hNone) o

section
variable {E : Env} {σ : Nat → Loc} {A : Nat → Prop} {M : Mem} {w : World} {h : H}

/-- What an operation leaves. -/
def OpMade (E : Env) (σ : Nat → Loc) (A : Nat → Prop) (M : Mem) (w : World) (h : H) (s : Sem Next) (z : AV) (h' : H) : Prop :=
  ∃ v w', (s.run E.P w = .ok (.value v) w' ∨ (s.run E.P w = .ok .skip w' ∧ v = Go.undef)) ∧ ∃ σ' A', Step σ A w h σ' A' w' h' ∧ RelV σ' A' M z v ∧ RelH σ' A' M w' h'

theorem opMade {s : Sem Value} {z : AV} {h' : H} (m : Made E σ A M w h s z h') : OpMade E σ A M w h (do pure (.value (← s))) z h' := by
  obtain ⟨v, w', h1, h2⟩ := m
  exact ⟨v, w', .inl (by simp [h1]), h2⟩
theorem opKeep (r : RelH σ A M w h) {s : Sem Value} {z : AV} (m : ∃ v, s.run E.P w = .ok v w ∧ RelV σ A M z v) : OpMade E σ A M w h (do pure (.value (← s))) z h := opMade (Made.same r m)
theorem opDone {s : Sem Unit} {h' : H} (m : ∃ w', s.run E.P w = .ok () w' ∧ Step σ A w h σ A w' h' ∧ RelH σ A M w' h') : OpMade E σ A M w h (do s; pure .skip) .undef h' := by
  obtain ⟨w', h1, h2, h3⟩ := m
  exact ⟨Go.undef, w', .inr ⟨by simp [h1], rfl⟩, σ, A, h2, .undef, h3⟩

theorem keep_some {o : Option AV} {z : AV} {h' : H} (hx : keep h o = some (.val z h')) : o = some z ∧ h' = h := by
  cases o <;> simp [keep] at hx
  exact ⟨by rw [hx.1], hx.2.symm⟩
theorem made_some {o : Option (AV × H)} {z : AV} {h' : H} (hx : made o = some (.val z h')) : o = some (z, h') := by
  cases o <;> simp [made] at hx
  obtain ⟨rfl, rfl⟩ := hx
  rfl
theorem done_some {o : Option H} {z : AV} {h' : H} (hx : done o = some (.val z h')) : o = some h' ∧ z = .undef := by
  cases o <;> simp [done] at hx
  exact ⟨by rw [hx.2], hx.1.symm⟩

theorem rel_opt {fr : Fr} {a : Act} (r : RelA σ A M fr a) (x : Option Operand) : RelO σ A M (optE fr x) (x.map a.eval) := by
  cases x with
  | none => exact .none
  | some x => exact .some _ _ (r.ev x)

theorem aBuiltin_ok (ok : E.Ok) (r : RelH σ A M w h) {fr : Fr} {a : Act} (ra : RelA σ A M fr a) {b : Builtin} {args : Array Operand} {ts : Array TypeId} {z : AV} {h' : H} (hx : aBuiltin E fr h b args.toList ts.toList = some (.val z h')) (ty : TypeId) (cs : Array Bool) :
    OpMade E σ A M w h (builtin b ts ty cs (args.map a.eval)) z h' := by
  obtain ⟨args⟩ := args
  obtain ⟨ts⟩ := ts
  simp only at hx
  unfold aBuiltin at hx
  split at hx
  · rename_i x y t u
    have := opMade (aAppend_ok ok r (made_some hx) (ra.ev x) (ra.ev y) ty)
    simpa [builtin] using this
  · rename_i x t ts'
    obtain ⟨h1, rfl⟩ := keep_some hx
    have := opKeep r (aLen_ok ok r h1 (ra.ev x) (t :: ts').toArray (by simp) ty)
    simpa [builtin] using this
  · rename_i x y t ts'
    have := opMade (aCopy_ok ok r (made_some hx) (ra.ev x) (ra.ev y) (t :: ts').toArray (by simp) ty)
    simpa [builtin] using this
  · rename_i x y t ts'
    have := opMade (aDelete_ok ok r (made_some hx) (ra.ev x) (ra.ev y) (ts := (t :: ts').toArray) (by simp) ty)
    simpa [builtin] using this
  · rename_i x ys
    obtain ⟨h1, rfl⟩ := keep_some hx
    have hl : RelL σ A M (mp (ev fr) ys) (ys.map a.eval) := by
      rw [mp_eq]
      clear h1 hx
      induction ys with
      | nil => exact .nil
      | cons y ys ih => exact .cons _ _ _ _ (ra.ev y) ih
    have := opKeep r (s := Builtin.min_ ts.toArray ty (Array.map a.eval (⟨x :: ys⟩ : Array Operand))) (E := E) (by
      simpa [Builtin.min_] using aMin_ok (P := E.P) (w := w) h1 (ra.ev x) hl)
    simpa [builtin] using this
  · rename_i x ys
    obtain ⟨h1, rfl⟩ := keep_some hx
    have hl : RelL σ A M (mp (ev fr) ys) (ys.map a.eval) := by
      rw [mp_eq]
      clear h1 hx
      induction ys with
      | nil => exact .nil
      | cons y ys ih => exact .cons _ _ _ _ (ra.ev y) ih
    have := opKeep r (s := Builtin.max_ ts.toArray ty (Array.map a.eval (⟨x :: ys⟩ : Array Operand))) (E := E) (by
      simpa [Builtin.max_] using aMax_ok (P := E.P) (w := w) h1 (ra.ev x) hl)
    simpa [builtin] using this
  · cases hx

theorem rel_args {fr : Fr} {a : Act} (ra : RelA σ A M fr a) {fs cs : List AV} {first cap : Array Value} (h1 : RelL σ A M fs first.toList) (h2 : RelL σ A M cs cap.toList) (args : Array Operand) :
    RelL σ A M (ap fs (ap (mp (ev fr) args.toList) cs)) ((first ++ args.map a.eval) ++ cap).toList := by
  rw [Array.toList_append, Array.toList_append, ap_eq, ap_eq, List.append_assoc]
  exact h1.append (ra.map.append h2)

theorem aCall_ok (ok : E.Ok) (r : RelH σ A M w h) {fr : Fr} {a : Act} (ra : RelA σ A M fr a) {c : Call} {ty : TypeId} {z : AV} {h' : H} (hx : aCall E fr h c = some (.val z h')) :
    OpMade E σ A M w h (do let d ← resolve a.eval c ty; invoke d.target d.args) z h' := by
  unfold aCall at hx
  split at hx
  · rename_i b hc
    have := aBuiltin_ok ok r ra hx ty (c.args.map fun | .const _ => true | _ => false)
    obtain ⟨v, w', h1, h2⟩ := this
    refine ⟨v, w', ?_, h2⟩
    simp only [resolve, hc, Sem.run_bind, Sem.run_pure, Result.andThen_ok, invoke]
    exact h1
  · rename_i f hc
    split at hx
    · rename_i g fs cs hg
      split at hx
      · cases hx
      · obtain ⟨h1, rfl⟩ := keep_some hx
        have hf := ra.ev f
        rw [hg] at hf
        generalize hfv : a.eval f = fv at hf
        cases hf with | fn _ _ _ first cap g1 g2 =>
        obtain ⟨v, e1, e2⟩ := ok.ext g _ _ h1 σ A M w _ (rel_args ra g1 g2 c.args)
        refine ⟨v, w, .inl ?_, σ, A, Step.refl _ _ _ _, e2, r⟩
        simp only [resolve, hc, hfv, Deferred.ofValue, Sem.run_bind, Sem.run_pure, Result.andThen_ok, invoke]
        exact e1
    · cases hx
    · cases hx
  · split at hx
    · split at hx
      · split at hx <;> cases hx
      · cases hx
    · cases hx

theorem aCall_enter (ok : E.Ok) {fr : Fr} {a : Act} (ra : RelA σ A M fr a) {c : Call} {ty : TypeId} {g : FuncId} {xs : List AV} (hx : aCall E fr h c = some (.call g xs)) :
    ∃ F, E.fn g = some F ∧ ∃ cargs : Array Value, (do let d ← resolve a.eval c ty; invoke d.target d.args : Sem Next).run E.P w = .ok (.enter g cargs) w ∧ RelL σ A M xs cargs.toList := by
  unfold aCall at hx
  split at hx
  · unfold aBuiltin at hx
    split at hx <;> (try (cases hx; done)) <;> first | (simp only [made] at hx; split at hx <;> cases hx) | (simp only [keep] at hx; split at hx <;> cases hx)
  · rename_i f hc
    split at hx
    · rename_i g' fs cs hg
      split at hx
      · rename_i F hF
        cases hx
        have hf := ra.ev f
        rw [hg] at hf
        generalize hfv : a.eval f = fv at hf
        cases hf with | fn _ _ _ first cap g1 g2 =>
        obtain ⟨k1, k2, k3⟩ := ok.fn _ _ hF
        refine ⟨F, hF, _, ?_, rel_args ra g1 g2 c.args⟩
        simp only [resolve, hc, hfv, Deferred.ofValue, Sem.run_bind, Sem.run_pure, Result.andThen_ok, invoke, callFunc, run_program, k1]
        have : (F.name == "runtime.NumGoroutine") = false := by simpa using k3
        simp only [this]
        have hb : F.body.isNone = false := by cases hF : F.body <;> simp_all
        simp [hb]
      · simp only [keep] at hx; split at hx <;> cases hx
    · cases hx
    · cases hx
  · rename_i x name hc
    split at hx
    · rename_i t v hv
      split at hx
      · rename_i g' hm
        split at hx
        · rename_i F hF
          cases hx
          have hf := ra.ev x
          rw [hv] at hf
          generalize hfv : a.eval x = fv at hf
          cases hf with | ifc _ _ u hu =>
          obtain ⟨k1, k2, k3⟩ := ok.fn _ _ hF
          have hmeth := ok.meth _ _ _ hm u w
          refine ⟨F, hF, #[u] ++ c.args.map a.eval, ?_, ?_⟩
          · have e1 : (#[Value.iface t u] ++ Array.map a.eval c.args)[0]? = some (.iface t u) := (Array.getElem?_append_left (by simp)).trans rfl
            have e2 : (#[Value.iface t u] ++ Array.map a.eval c.args).extract 1 (#[Value.iface t u] ++ Array.map a.eval c.args).size = Array.map a.eval c.args := by
              rw [Array.extract_append]
              simp
            simp only [resolve, hc, hfv, Sem.run_bind, Sem.run_pure, Result.andThen_ok, invoke, e1, e2, callMethod, run_program, hmeth, callFunc, k1]
            have : (F.name == "runtime.NumGoroutine") = false := by simpa using k3
            simp only [this]
            have hb : F.body.isNone = false := by cases hF : F.body <;> simp_all
            simp [hb]
          · rw [Array.toList_append]
            exact .cons _ _ _ _ hu ra.map
        · cases hx
      · cases hx
    · cases hx

/-- A value is given to a loop. -/
theorem aCall_round {fr : Fr} {a : Act} (ra : RelA σ A M fr a) {c : Call} {ty : TypeId} {b : Nat} {xs : List AV} (hx : aCall E fr h c = some (.round b xs)) :
    A b ∧ ∃ cargs : Array Value, RelL σ A M xs cargs.toList ∧ (do let d ← resolve a.eval c ty; invoke d.target d.args : Sem Next).run E.P w = (Instr.yield (σ b).blk cargs).run E.P w := by
  unfold aCall at hx
  split at hx
  · unfold aBuiltin at hx
    split at hx <;> (try (cases hx; done)) <;> first | (simp only [made] at hx; split at hx <;> cases hx) | (simp only [keep] at hx; split at hx <;> cases hx)
  · rename_i f hc
    split at hx
    · rename_i g' fs cs hg
      split at hx
      · cases hx
      · simp only [keep] at hx; split at hx <;> cases hx
    · rename_i b' hb
      cases hx
      have hf := ra.ev f
      rw [hb] at hf
      generalize hfv : a.eval f = fv at hf
      cases hf with | yl _ hA r hr =>
      refine ⟨hA, c.args.map a.eval, ra.map, ?_⟩
      simp only [resolve, hc, hfv, Deferred.ofValue, Sem.run_bind, Sem.run_pure, Result.andThen_ok, invoke]
      subst hr
      simp
    · cases hx
  · split at hx
    · split at hx
      · split at hx <;> cases hx
      · cases hx
    · cases hx

theorem aArr_ok (ok : E.Ok) {t : TypeId} {x z : AV} (hx : aArr E t x = some z) {v : Value} (hv : RelV σ A M x v) : ∃ u, (Instr.arrayAt t v).run E.P w = .ok u w ∧ RelV σ A M z u := by
  unfold aArr at hx
  simp only [tk_eq, dp_eq, ap_eq, ln_eq, nt_eq, mp_eq, al_eq, st_eq, rpl_eq, eqN_eq, iLe_eq, iLt_eq, iEq_beq, bNot_eq, iAdd_eq, iSub_eq, wr_eq, cond_eq_if, ble_dec, natBeq] at hx
  split at hx
  case h_2 => cases hx
  rename_i i b o n _ _ hi
  have hu := ok.und w hi
  split at hx
  case h_2 => cases hx
  rename_i m e hd
  rw [hd] at hu
  split at hx
  case isFalse => cases hx
  rename_i hc
  simp only [Bool.and_eq_true, decide_eq_true_eq] at hc
  cases hx
  cases hv with | sl _ _ _ c z cap a hA hn hcc ha hz =>
  refine ⟨.pointer (some a), ?_, .p _ _ hA _ (ha (by omega))⟩
  have : ¬ n < m := by omega
  simp [Instr.arrayAt, hu, this]

theorem none_some {x : ORes} (h : (none : Option ORes) = some x) : False := nomatch h
theorem aop_ok (ok : E.Ok) (r : RelH σ A M w h) {fr : Fr} {a : Act} (ra : RelA σ A M fr a) {o : Oper} {z : AV} {h' : H} (hx : aop o.op E fr h = some (.val z h')) : OpMade E σ A M w h (execOp a.eval o) z h' := by
  have value : ∀ {v : Value} {y : AV}, RelV σ A M y v → OpMade E σ A M w h (pure (.value v)) y h := fun {v y} hr => ⟨v, w, .inl rfl, σ, A, Step.refl _ _ _ _, hr, r⟩
  unfold execOp
  cases ho : o.op <;> rw [ho] at hx <;> dsimp only [aop] at hx <;> (try (exact (none_some hx).elim)) <;> dsimp only
  case move x => cases hx; exact value (ra.ev _)
  case assign x => cases hx; exact value (ra.ev _)
  case pick c x y =>
    unfold hPick at hx
    split at hx
    · rename_i t ht
      cases hx
      have hc := ra.ev c
      rw [ht] at hc
      generalize a.eval c = cv at hc
      cases hc
      refine ⟨if t then a.eval x else a.eval y, w, .inl ?_, σ, A, Step.refl _ _ _ _, ?_, r⟩
      · cases t <;> simp [asBool]
      · cases t
        · exact ra.ev y
        · exact ra.ev x
    · cases hx
  case alloc t => exact opMade (aAlloc_ok ok r (made_some hx) _)
  case box t x => exact opMade (aBox_ok r (made_some hx) (ra.ev x))
  case build t parts =>
    obtain ⟨h1, rfl⟩ := keep_some hx
    obtain ⟨p1, p2⟩ := rel_parts ra parts
    exact opKeep r (aBuild_ok ok h1 p1 p2)
  case buildSlice t len parts =>
    obtain ⟨p1, p2⟩ := rel_parts ra parts
    exact opMade (aBuildSlice_ok ok r (made_some hx) p1 p2)
  case load t x =>
    obtain ⟨h1, rfl⟩ := keep_some hx
    exact opKeep r (aLoad_ok ok r h1 (ra.ev x))
  case store t x y =>
    obtain ⟨h1, rfl⟩ := done_some hx
    exact opDone (aStore_ok ok r h1 (ra.ev x) (ra.ev y))
  case nilCheck x =>
    unfold hNilCheck at hx
    rw [cond_eq_if] at hx
    split at hx
    · rename_i hk
      cases hx
      have hr := ra.ev x
      generalize ev fr x = xv at hr hk
      generalize a.eval x = v at hr
      cases hr <;> (try (simp [okNil] at hk; done)) <;> (try exact value (by constructor <;> assumption))
      rename_i g _ _ _ _ _ _
      cases g <;> simp [okNil] at hk
      exact value (by constructor <;> assumption)
    · cases hx
  case binOp op t x y _ =>
    unfold hBin at hx
    rw [cond_eq_if] at hx
    split at hx
    · rename_i hg
      obtain ⟨h1, rfl⟩ := keep_some hx
      exact opKeep r (aBin_ok ok h1 hg (ra.ev x) (ra.ev y))
    · cases hx
  case unOp op _ x =>
    obtain ⟨h1, rfl⟩ := keep_some hx
    exact opKeep r (aUn_ok h1 (ra.ev x))
  case convert src dst x =>
    unfold hConvert at hx
    split at hx
    · rename_i v hv; cases hx; exact opKeep r (aConv_ok ok hv (ra.ev x))
    · split at hx
      · rename_i v hv; cases hx; exact opKeep r (aToStr_ok ok r hv (ra.ev x))
      · exact opMade (aToBytes_ok ok r (made_some hx) (ra.ev x))
  case makeInterface t x =>
    unfold hMakeInterface at hx
    split at hx
    · rename_i i hi
      have hu := ok.und w hi
      split at hx
      · cases hx
      · rename_i hni
        cases hx
        refine opKeep r ⟨.iface t (a.eval x), ?_, .ifc _ _ _ (ra.ev x)⟩
        simp only [Instr.makeInterface, Sem.run_bind, hu, Result.andThen_ok]
        cases hd : i.desc <;> first | rfl | exact absurd hd (hni _)
    · cases hx
  case makeFunc g first cap =>
    cases hx
    exact opKeep r ⟨_, rfl, .fn _ _ _ _ _ ra.map ra.map⟩
  case makeMap t rr =>
    cases rr with
    | none => cases hx; exact opMade (aMakeMap_ok r rfl)
    | some _ => exact (none_some hx).elim
  case makeSlice t l c => exact opMade (aMakeSlice_ok ok r (made_some hx) (ra.ev l) (ra.ev c))
  case slice t x lo hi mx =>
    cases mx with
    | some m =>
      obtain ⟨h1, rfl⟩ := keep_some hx
      exact opKeep r (aSlice3_ok ok h1 (ra.ev x) (rel_opt ra lo) (rel_opt ra hi) (ra.ev m))
    | none =>
      obtain ⟨h1, rfl⟩ := keep_some hx
      exact opKeep r (aSlice_ok ok r h1 (ra.ev x) (rel_opt ra lo) (rel_opt ra hi))
  case fieldAddr t x f =>
    obtain ⟨h1, rfl⟩ := keep_some hx
    exact opKeep r (aFieldAddr_ok ok h1 (ra.ev x))
  case field t x f =>
    obtain ⟨h1, rfl⟩ := keep_some hx
    exact opKeep r (aField_ok ok h1 (ra.ev x))
  case indexAddr t x y =>
    obtain ⟨h1, rfl⟩ := keep_some hx
    exact opKeep r (aIndexAddr_ok ok h1 (ra.ev x) (ra.ev y))
  case index t x y =>
    obtain ⟨h1, rfl⟩ := keep_some hx
    exact opKeep r (aIndex_ok ok h1 (ra.ev x) (ra.ev y))
  case lookup t x k c =>
    obtain ⟨h1, rfl⟩ := keep_some hx
    exact opKeep r (aLookup_ok ok r h1 (ra.ev x) (ra.ev k))
  case mapUpdate t x k y =>
    obtain ⟨h1, rfl⟩ := done_some hx
    exact opDone (aUpdate_ok ok r h1 (ra.ev x) (ra.ev k) (ra.ev y))
  case insert t x k y =>
    obtain ⟨h1, rfl⟩ := done_some hx
    exact opDone (aUpdate_ok ok r h1 (ra.ev x) (ra.ev k) (ra.ev y))
  case extract x n =>
    obtain ⟨h1, rfl⟩ := keep_some hx
    exact opKeep r (aExtract_ok h1 (ra.ev x))
  case sliceToArrayPointer t x =>
    obtain ⟨h1, rfl⟩ := keep_some hx
    exact opKeep r (aArr_ok ok h1 (ra.ev x))
  case range t x => exact opMade (aRange_ok ok r (made_some hx) (ra.ev x))
  case next x s => exact opMade (aNext_ok r (made_some hx) (ra.ev x) _)
  case entry x =>
    obtain ⟨h1, rfl⟩ := keep_some hx
    exact opKeep r (aEntry_ok r h1 (ra.ev x))
  case call c => exact aCall_ok ok r ra hx

theorem keep_call {h : H} {o : Option AV} {g : FuncId} {xs : List AV} : keep h o ≠ some (.call g xs) := by cases o <;> simp [keep]
theorem made_call {o : Option (AV × H)} {g : FuncId} {xs : List AV} : made o ≠ some (.call g xs) := by cases o <;> simp [made]
theorem done_call {o : Option H} {g : FuncId} {xs : List AV} : done o ≠ some (.call g xs) := by cases o <;> simp [done]

theorem keep_round {h : H} {o : Option AV} {b : Nat} {xs : List AV} : keep h o ≠ some (.round b xs) := by cases o <;> simp [keep]
theorem made_round {o : Option (AV × H)} {b : Nat} {xs : List AV} : made o ≠ some (.round b xs) := by cases o <;> simp [made]
theorem done_round {o : Option H} {b : Nat} {xs : List AV} : done o ≠ some (.round b xs) := by cases o <;> simp [done]

theorem aop_round {fr : Fr} {a : Act} (ra : RelA σ A M fr a) {o : Oper} {b : Nat} {xs : List AV} (hx : aop o.op E fr h = some (.round b xs)) :
    A b ∧ ∃ cargs : Array Value, RelL σ A M xs cargs.toList ∧ (execOp a.eval o).run E.P w = (Instr.yield (σ b).blk cargs).run E.P w := by
  unfold execOp
  cases ho : o.op <;> rw [ho] at hx <;> dsimp only [aop] at hx <;> (try (exact (none_some hx).elim)) <;> (try (exact absurd hx keep_round)) <;> (try (exact absurd hx made_round)) <;> (try (exact absurd hx done_round)) <;> dsimp only
  case call c => exact aCall_round ra hx
  all_goals exfalso
  case pick => unfold hPick at hx; split at hx <;> cases hx
  case nilCheck => unfold hNilCheck at hx; rw [cond_eq_if] at hx; split at hx <;> cases hx
  case binOp => unfold hBin at hx; rw [cond_eq_if] at hx; split at hx; exact keep_round hx; cases hx
  case convert => unfold hConvert at hx; split at hx; cases hx; (split at hx; cases hx; exact made_round hx)
  case makeInterface => unfold hMakeInterface at hx; split at hx; (split at hx <;> cases hx); cases hx
  case makeMap t rr => cases rr with | none => cases hx | some _ => exact (none_some hx).elim
  case move => cases hx
  case assign => cases hx
  case makeFunc => cases hx
  case slice t x lo hi mx => cases mx; exact keep_round hx; exact keep_round hx

/-- An operation that is understood defers nothing. -/
theorem aop_defer {o : Oper} {fr : Fr} {x : ORes} (hx : aop o.op E fr h = some x) (r : Option Nat) (ρ : Operand → Value) : o.semAt r ρ = execOp ρ o :=
  Oper.semAt_eq r ρ o fun c hc => by rw [hc] at hx; exact none_some hx

theorem aop_enter (ok : E.Ok) {fr : Fr} {a : Act} (ra : RelA σ A M fr a) {o : Oper} {g : FuncId} {xs : List AV} (hx : aop o.op E fr h = some (.call g xs)) :
    ∃ F, E.fn g = some F ∧ ∃ cargs : Array Value, (execOp a.eval o).run E.P w = .ok (.enter g cargs) w ∧ RelL σ A M xs cargs.toList := by
  unfold execOp
  cases ho : o.op <;> rw [ho] at hx <;> dsimp only [aop] at hx <;> (try (exact (none_some hx).elim)) <;> (try (exact absurd hx keep_call)) <;> (try (exact absurd hx made_call)) <;> (try (exact absurd hx done_call)) <;> dsimp only
  case call c => exact aCall_enter ok ra hx
  all_goals exfalso
  case pick => unfold hPick at hx; split at hx <;> cases hx
  case nilCheck => unfold hNilCheck at hx; rw [cond_eq_if] at hx; split at hx <;> cases hx
  case binOp => unfold hBin at hx; rw [cond_eq_if] at hx; split at hx; exact keep_call hx; cases hx
  case convert => unfold hConvert at hx; split at hx; cases hx; (split at hx; cases hx; exact made_call hx)
  case makeInterface => unfold hMakeInterface at hx; split at hx; (split at hx <;> cases hx); cases hx
  case makeMap t rr => cases rr with | none => cases hx | some _ => exact (none_some hx).elim
  case move => cases hx
  case assign => cases hx
  case makeFunc => cases hx
  case slice t x lo hi mx => cases mx; exact keep_call hx; exact keep_call hx
end
end
end Go.Proofs.YtfaemheimmndgaaGreatDoor.XI
