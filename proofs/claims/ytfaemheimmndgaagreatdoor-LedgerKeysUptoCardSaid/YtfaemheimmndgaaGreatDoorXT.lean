/- Code that is gone through by hand. Part of a verified reckoner of runs: no condition. -/
import Derived.Test.YtfaemheimmndgaaGreatDoorXS
set_option linter.unusedVariables false
set_option linter.unusedSimpArgs false
namespace Go.Proofs.YtfaemheimmndgaaGreatDoor.XI
noncomputable section

/-! ### 22. Code that is gone through by hand -/
section
variable {E : Env} {σ σ' : Nat → Loc} {A A' : Nat → Prop} {M : Mem} {n : Nat} {rb : Option Nat}

/-- From this frame and heap the code comes out so. -/
def Snd (E : Env) (M : Mem) (n : Nat) (rb : Option Nat) (c : Code) (fr : Fr) (h : H) (o : Out) : Prop :=
  ∀ (B : Nat) (r : Option Nat) (σ : Nat → Loc) (A : Nat → Prop) (w : World) (a : Act) (Q : Exit → Act → World → Prop),
    B ≤ w.heap.size → RC σ A r rb → RelA σ A M fr a → RelH σ A M w h → a.tmps.size = n → DG B σ h w a → OutOk B σ A M w h n Q o → c.wpIn (FR r) 0 E.P Q a w

theorem Snd.of {c : Code} {x : Fr → H → Out} (s : CodeS E M n rb c x) {fr : Fr} {h : H} {o : Out} (e : x fr h = o) : Snd E M n rb c fr h o := by
  subst e
  exact fun B r σ A w a Q hB rc ra rh hn d g => s B r σ A w h fr a Q hB rc ra rh hn d g

/-- What comes next. -/
def Out.then (o : Out) (K : Fr → H → Out → Prop) (o' : Out) : Prop := match o with
  | .nor fr h => K fr h o'
  | o => o' = o

theorem Snd.seq {x y : Code} {fr f1 : Fr} {h h1 : H} {o : Out} (s : Snd E M n rb x fr h (.nor f1 h1)) (t : Snd E M n rb y f1 h1 o) : Snd E M n rb (.seq x y) fr h o := by
  intro B r σ A w a Q hB rc ra rh hn d g
  refine wpIn_seq (s B r σ A w a _ hB rc ra rh hn d ?_)
  intro a' w' σ' A' s' ra rh hn d
  exact t B r σ' A' w' a' Q (Nat.le_trans hB s'.size) (rc.step s'.agree) ra rh hn d (OutOk.step s' g)
theorem Snd.seq_ret {x y : Code} {fr f1 : Fr} {h h1 : H} (s : Snd E M n rb x fr h (.ret f1 h1)) : Snd E M n rb (.seq x y) fr h (.ret f1 h1) := by
  intro B r σ A w a Q hB rc ra rh hn d g
  exact wpIn_seq (s B r σ A w a _ hB rc ra rh hn d (fun a' w' σ' A' s' ra rh hn d => g a' w' σ' A' s' ra rh hn d))
theorem Snd.seq_ex {x y : Code} {fr f1 : Fr} {h h1 : H} {i : Nat} (s : Snd E M n rb x fr h (.ex i f1 h1)) : Snd E M n rb (.seq x y) fr h (.ex i f1 h1) := by
  intro B r σ A w a Q hB rc ra rh hn d g
  exact wpIn_seq (s B r σ A w a _ hB rc ra rh hn d (fun a' w' σ' A' s' ra rh hn d => g a' w' σ' A' s' ra rh hn d))
theorem Snd.cond {c : Operand} {x y : Code} {fr : Fr} {h : H} {o : Out} {t : Bool} (e : ev fr c = .b t) (s : Snd E M n rb (if t then x else y) fr h o) : Snd E M n rb (.cond c x y) fr h o := by
  intro B r σ A w a Q hB rc ra rh hn d g
  have hv := ra.ev c
  rw [e] at hv
  have hv : a.eval c = .bool t := by generalize a.eval c = u at hv; cases hv; rfl
  refine wpIn_cond hv ?_
  cases t <;> exact s B r σ A w a Q hB rc ra rh hn d g
theorem Snd.skip {fr : Fr} {h : H} : Snd E M n rb .skip fr h (.nor fr h) :=
  fun B r σ A w a Q hB rc ra rh hn d g => wpIn_skip (g a w σ A (Step.refl _ _ _ _) ra rh hn d)
theorem Snd.exit {fr : Fr} {h : H} {i : Nat} : Snd E M n rb (.exit i) fr h (.ex i fr h) :=
  fun B r σ A w a Q hB rc ra rh hn d g => wpIn_exit (g a w σ A (Step.refl _ _ _ _) ra rh hn d)
theorem Snd.ret {fr : Fr} {h : H} : Snd E M n rb .ret fr h (.ret fr h) :=
  fun B r σ A w a Q hB rc ra rh hn d g => wpIn_ret (g a w σ A (Step.refl _ _ _ _) ra rh hn d)
theorem Snd.block {id : Nat} {x : Code} {fr : Fr} {h : H} {o : Out} (s : Snd E M n rb x fr h o) : Snd E M n rb (.block id x) fr h (Out.blk id o) := by
  intro B r σ A w a Q hB rc ra rh hn d g
  refine wpIn_block (s B r σ A w a _ hB rc ra rh hn d ?_)
  cases o with
  | no => exact g
  | nor fr' h' => exact g
  | ret fr' h' => exact g
  | ex i fr' h' =>
    have g : OutOk B σ A M w h n Q (Bool.rec (motive := fun _ => Out) (.ex i fr' h') (.nor fr' h') (Nat.beq i id)) := g
    intro a' w' σ' A' s ra rh hn d
    simp only [Exit.inBlock]
    rw [natBeq] at g
    by_cases hi : i = id
    · rw [if_pos hi]
      rw [decide_eq_true hi] at g
      exact g a' w' σ' A' s ra rh hn d
    · rw [if_neg hi]
      rw [decide_eq_false hi] at g
      exact g a' w' σ' A' s ra rh hn d

theorem Snd.scope {x : Code} {fr : Fr} {h : H} {o : Out} (s : Snd E M n rb x fr h o) : Snd E M n rb (.scope x) fr h o := by
  intro B r σ A w a Q hB rc ra rh hn d g
  refine wpIn_scope (s B r σ A w a _ hB rc ra rh hn d ?_)
  cases o <;> exact g

/-- Rounds of a loop's body. -/
inductive Loops (E : Env) (M : Mem) (n : Nat) (rb : Option Nat) (x : Code) : Fr → H → Out → Prop
  | ret {fr f1 : Fr} {h h1 : H} (s : Snd E M n rb x fr h (.ret f1 h1)) : Loops E M n rb x fr h (.ret f1 h1)
  | ex {fr f1 : Fr} {h h1 : H} {i : Nat} (s : Snd E M n rb x fr h (.ex i f1 h1)) : Loops E M n rb x fr h (.ex i f1 h1)
  | next {fr f1 : Fr} {h h1 : H} {o : Out} (s : Snd E M n rb x fr h (.nor f1 h1)) (t : Loops E M n rb x f1 h1 o) : Loops E M n rb x fr h o

theorem Loops.rounds {x : Code} {fr : Fr} {h : H} {o : Out} (l : Loops E M n rb x fr h o) : ∃ N, ∀ (B : Nat) (r : Option Nat) (σ : Nat → Loc) (A : Nat → Prop) (w : World) (a : Act) (Q : Exit → Act → World → Prop),
    B ≤ w.heap.size → RC σ A r rb → RelA σ A M fr a → RelH σ A M w h → a.tmps.size = n → DG B σ h w a → OutOk B σ A M w h n Q o → Code.roundsIn (FR r) 0 E.P x Q N a w := by
  induction l with
  | ret s =>
    refine ⟨1, fun B r σ A w a Q hB rc ra rh hn d g => ?_⟩
    rw [roundsIn_succ]
    exact s B r σ A w a _ hB rc ra rh hn d (fun a' w' σ' A' s' ra rh hn d => g a' w' σ' A' s' ra rh hn d)
  | ex s =>
    refine ⟨1, fun B r σ A w a Q hB rc ra rh hn d g => ?_⟩
    rw [roundsIn_succ]
    exact s B r σ A w a _ hB rc ra rh hn d (fun a' w' σ' A' s' ra rh hn d => g a' w' σ' A' s' ra rh hn d)
  | next s t ih =>
    obtain ⟨N, hN⟩ := ih
    refine ⟨N + 1, fun B r σ A w a Q hB rc ra rh hn d g => ?_⟩
    rw [roundsIn_succ]
    refine s B r σ A w a _ hB rc ra rh hn d (fun a' w' σ' A' s' ra rh hn d => ?_)
    exact hN B r σ' A' w' a' Q (Nat.le_trans hB s'.size) (rc.step s'.agree) ra rh hn d (OutOk.step s' g)
theorem Snd.loop {x : Code} {fr : Fr} {h : H} {o : Out} (l : Loops E M n rb x fr h o) : Snd E M n rb (.loop x) fr h o := by
  obtain ⟨N, hN⟩ := l.rounds
  exact fun B r σ A w a Q hB rc ra rh hn d g => wpIn_loop_rounds N (hN B r σ A w a Q hB rc ra rh hn d g)

/-- A region, its calls told by 'call'. -/
theorem Snd.ops (ok : E.Ok) {call : CallF} (hc : CallOk E M call) {id : Nat} {ops : Array Oper} (hd : ops.toList.all (fun o => dstOk n o.dst) = true) {fr : Fr} {h : H} {o : Out} (e : opsA E call ops.toList ops.toList fr h = o) : Snd E M n rb (.region id ops false) fr h o := by
  subst e
  exact fun B r σ A w a Q hB rc ra rh hn d g => wpIn_region_list (opsA_ok ok hc ops.toList σ A w h fr a hd ra rh hn d g)
theorem Snd.draw (ok : E.Ok) (hm : E.P.follows .mixedOrders = true) {call : CallF} (hc : CallOk E M call) {id : Nat} {ops : Array Oper} (hd : ops.toList.all (fun o => dstOk n o.dst) = true) {fr : Fr} {h : H} {o : Out} (e : drawA E call ops.toList fr h = o) : Snd E M n rb (.region id ops true) fr h o := by
  subst e
  exact fun B r σ A w a Q hB rc ra rh hn d g => draw_ok ok hm hc n id ops hd rb B r σ A w h fr a Q hB rc ra rh hn d g

/-- A function whose body comes out so. -/
theorem callS_of (ok : E.Ok) {f : FuncId} {F : Func} (hF : E.fn f = some F) {c : Code} (hb : F.body = some c) {args : List AV} (hln : args.length ≤ F.ntmps) {h : H} {o : Out} {z : AV} {h' : H}
    (s : Snd E M F.ntmps none c (frOf args 0 .e) h o) (e : endA E F.results.toList o = some (z, h')) : CallS E M (.fn f) args h z h' := by
  intro σ A w cargs hl rh
  obtain ⟨hf, _, _⟩ := ok.fn f F hF
  have hlen : args.length = cargs.size := by rw [hl.length]; simp
  refine (callsIn_wide (n := 0)).1 (callsIn_of_wp_marks hf hb trivial (s w.heap.size none σ A w _ _ (Nat.le_refl _) rfl (relA_start hl hln) rh (by simp; omega) (DG.nil _ _ _ _ _) ?_))
  have fin : ∀ (fr : Fr) (h1 : H), (match resA E h1 fr F.results.toList with | some xs => some (oneOf xs, h1) | none => none) = some (z, h') →
      ∀ (ex : Exit), (ex = .normal ∨ ex = .ret) → Goes w.heap.size σ A M w h F.ntmps (bodyPostM Fence.wide 0 E.P F (Ans σ A M w h z h') ex) fr h1 := by
    intro fr h1 e ex hex a' w' σ' A' s ra rh' hn d
    split at e
    · rename_i xs hxs
      cases e
      obtain ⟨ks, d1, d2, d3⟩ := d
      have hl : LeavesInM Fence.wide 0 E.P F a'.tmps (Ans σ A M w h (oneOf xs) h') a'.defers .returning w' := by
        rw [d1]
        refine leave_ok ks w' rh' d2 d3 fun w'' rh'' l => ?_
        obtain ⟨v, g1, g2⟩ := results_ok ok rh'' ra hxs
        exact ⟨v, g1, v, σ', A', rfl, s.late l, g2, rh''⟩
      rcases hex with rfl | rfl <;> exact hl
    · cases e
  unfold endA at e
  cases o with
  | no => cases e
  | nor fr h1 => exact fin fr h1 e .normal (.inl rfl)
  | ret fr h1 => exact fin fr h1 e .ret (.inr rfl)
  | ex i fr h1 => cases e
end
end
end Go.Proofs.YtfaemheimmndgaaGreatDoor.XI
