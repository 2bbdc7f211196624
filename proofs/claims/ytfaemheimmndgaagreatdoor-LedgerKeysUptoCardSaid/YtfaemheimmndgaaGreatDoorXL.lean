/- A step in a part of the heap is a step in the whole. Part of a verified reckoner of runs: no condition. -/
import Derived.Test.YtfaemheimmndgaaGreatDoorXK
set_option linter.unusedVariables false
set_option linter.unusedSimpArgs false
namespace Go.Proofs.YtfaemheimmndgaaGreatDoor.XI
noncomputable section

/-! ### 11. A step in a part of the heap is a step in the whole -/
section
variable {σ σ' σ'' : Nat → Loc} {A A' A'' : Nat → Prop} {M : Mem} {w w' w'' : World} {g g' g'' h h' : H}

/-- What a step does, but for the numbers that it makes. -/
structure Mv (σ : Nat → Loc) (A : Nat → Prop) (w : World) (h : H) (σ' : Nat → Loc) (A' : Nat → Prop) (w' : World) (h' : H) : Prop where
  agree : ∀ b, A b → A' b ∧ σ' b = σ b
  os : w'.os = w.os
  tape : w'.tape = w.tape
  output : w'.output = w.output
  size : w.heap.size ≤ w'.heap.size
  keep : ∀ k, k < w.heap.size → ¬ Own σ h k → w'.heap[k]? = w.heap[k]?
  own : ∀ k, Own σ' h' k → Own σ h k ∨ w.heap.size ≤ k

theorem Step.mv (s : Step σ A w h σ' A' w' h') : Mv σ A w h σ' A' w' h' := ⟨s.agree, s.os, s.tape, s.output, s.size, s.keep, s.own⟩
theorem Mv.trans (s : Mv σ A w g σ' A' w' g') (t : Mv σ' A' w' g' σ'' A'' w'' g'') : Mv σ A w g σ'' A'' w'' g'' where
  agree b a := ⟨(t.agree b (s.agree b a).1).1, (t.agree b (s.agree b a).1).2.trans (s.agree b a).2⟩
  os := t.os.trans s.os
  tape := t.tape.trans s.tape
  output := t.output.trans s.output
  size := Nat.le_trans s.size t.size
  keep k hk ho := by
    rw [t.keep k (Nat.lt_of_lt_of_le hk s.size) (fun o => ?_), s.keep k hk ho]
    rcases s.own k o with h1 | h1
    · exact ho h1
    · omega
  own k o := by
    rcases t.own k o with h1 | h1
    · exact s.own k h1
    · exact .inr (Nat.le_trans s.size h1)

/-- A part of the heap. -/
theorem RelH.part (r : RelH σ A M w g) (hs : ∀ b x, h.get b = some x → g.get b = some x) (hb : ∀ b, A b → b < h.next ∨ b % h.st ≠ h.next % h.st) (hw : h.wb ≤ h.next) (hp : 0 < h.st) : RelH σ A M w h where
  bound := hb
  dom b x e := r.dom b x (hs b x e)
  blk b x e := r.blk b x (hs b x e)
  inj b x b' x' e e' l l' hne := r.inj b x b' x' (hs b x e) (hs b' x' e') l l' hne
  stay a v e := ⟨(r.stay a v e).1, fun b x hx l => (r.stay a v e).2 b x (hs b x hx) l⟩
  wb := hw
  pos := hp

theorem frame_ok (r : RelH σ A M w g) (hs : ∀ b x, h.get b = some x → g.get b = some x) (s : Step σ A w h σ' A' w' h') (r' : RelH σ' A' M w' h')
    (hg : ∀ b, g'.get b = if (h'.get b).isSome then h'.get b else if (h.get b).isSome then none else g.get b)
    (hb : ∀ b, A' b → b < g'.next ∨ b % g'.st ≠ g'.next % g'.st) (hw : g'.wb ≤ g'.next) (hp : 0 < g'.st) :
    Mv σ A w g σ' A' w' g' ∧ RelH σ' A' M w' g' := by
  have hOwn : ∀ k, Own σ h k → Own σ g k := fun k ⟨b, x, e, l, hk⟩ => ⟨b, x, hs b x e, l, hk⟩
  have hcase : ∀ b x, g'.get b = some x → h'.get b = some x ∨ (h.get b = none ∧ h'.get b = none ∧ g.get b = some x) := by
    intro b x e
    rw [hg] at e
    cases h1 : h'.get b with
    | some y => rw [h1] at e; simp only [Option.isSome_some, if_true] at e; exact .inl e
    | none =>
      rw [h1] at e
      simp only [Option.isSome_none, Bool.false_eq_true, if_false] at e
      cases h2 : h.get b with
      | some y => rw [h2] at e; simp at e
      | none => rw [h2] at e; simp only [Option.isSome_none, Bool.false_eq_true, if_false] at e; exact .inr ⟨rfl, rfl, e⟩
  -- a block that isn't seen is nobody's of those that are seen
  have hhid : ∀ b x, h.get b = none → g.get b = some x → x.live = true → ¬ Own σ h (σ b).blk := by
    rintro b x hn e l ⟨c, y, ec, lc, hk⟩
    have hne : c ≠ b := fun e' => by rw [e', hn] at ec; cases ec
    exact r.inj c y b x (hs c y ec) e lc l hne hk
  have hhid' : ∀ b x, h.get b = none → g.get b = some x → x.live = true → ¬ Own σ' h' (σ b).blk := by
    intro b x hn e l o
    rcases s.own _ o with h1 | h1
    · exact hhid b x hn e l h1
    · have := (r.blk b x e).lt l
      omega
  refine ⟨⟨s.agree, s.os, s.tape, s.output, s.size, fun k hk ho => s.keep k hk (fun o => ho (hOwn k o)), fun k o => ?_⟩, ⟨hb, fun b x e => ?_, fun b x e => ?_, fun b x b' x' e e' l l' hne => ?_, fun a v hM => ⟨?_, fun b x e l => ?_⟩, hw, hp⟩⟩
  · obtain ⟨b, x, e, l, rfl⟩ := o
    rcases hcase b x e with h1 | ⟨h1, h2, h3⟩
    · exact (s.own _ ⟨b, x, h1, l, rfl⟩).imp (hOwn _) id
    · rw [(s.agree b (r.dom b x h3)).2]
      exact .inl ⟨b, x, h3, l, rfl⟩
  · rcases hcase b x e with h1 | ⟨h1, h2, h3⟩
    · exact r'.dom b x h1
    · exact (s.agree b (r.dom b x h3)).1
  · rcases hcase b x e with h1 | ⟨h1, h2, h3⟩
    · exact r'.blk b x h1
    · exact RelB.move s.agree (r.dom b x h3) (fun l => s.keep _ ((r.blk b x h3).lt l) (hhid b x h1 h3 l)) (r.blk b x h3)
  · rcases hcase b x e with h1 | ⟨h1, h2, h3⟩
    · rcases hcase b' x' e' with h1' | ⟨h1', h2', h3'⟩
      · exact r'.inj b x b' x' h1 h1' l l' hne
      · rw [(s.agree b' (r.dom b' x' h3')).2]
        intro hk
        exact hhid' b' x' h1' h3' l' ⟨b, x, h1, l, hk⟩
    · rcases hcase b' x' e' with h1' | ⟨h1', h2', h3'⟩
      · rw [(s.agree b (r.dom b x h3)).2]
        intro hk
        exact hhid' b x h1 h3 l ⟨b', x', h1', l', hk.symm⟩
      · rw [(s.agree b (r.dom b x h3)).2, (s.agree b' (r.dom b' x' h3')).2]
        exact r.inj b x b' x' h3 h3' l l' hne
  · exact (r'.stay a v hM).1
  · rcases hcase b x e with h1 | ⟨h1, h2, h3⟩
    · exact (r'.stay a v hM).2 b x h1 l
    · rw [(s.agree b (r.dom b x h3)).2]
      exact (r.stay a v hM).2 b x h3 l

/-! Blocks that are laid into a heap. -/
/-- Index, number, block. -/
abbrev Fs := List (Nat × Nat × Option ABlk)
def hput (S : Nat → Bool) (h : H) (fs : Fs) : H := List.rec (motive := fun _ => H → H) (fun h => h)
  (fun x _ ih h => ih (cond (S x.1) (match x.2.2 with | some y => ⟨h.t.put x.2.1 (some y), h.next, h.wb, h.st⟩ | none => h) h)) fs h
theorem hput_cons (S : Nat → Bool) (h : H) (f b : Nat) (x : Option ABlk) (fs : Fs) :
    hput S h ((f, b, x) :: fs) = hput S (cond (S f) (match x with | some y => ⟨h.t.put b (some y), h.next, h.wb, h.st⟩ | none => h) h) fs := rfl
theorem hput_same (S : Nat → Bool) : ∀ (fs : Fs) (h : H), (hput S h fs).next = h.next ∧ (hput S h fs).wb = h.wb ∧ (hput S h fs).st = h.st
  | [], h => ⟨rfl, rfl, rfl⟩
  | (f, b, x) :: fs, h => by
    rw [hput_cons]
    obtain ⟨h1, h2, h3⟩ := hput_same S fs (cond (S f) (match x with | some y => ⟨h.t.put b (some y), h.next, h.wb, h.st⟩ | none => h) h)
    rw [h1, h2, h3]
    cases S f <;> cases x <;> exact ⟨rfl, rfl, rfl⟩
theorem hput_append (S : Nat → Bool) : ∀ (fs fs' : Fs) (h : H), hput S h (fs ++ fs') = hput S (hput S h fs) fs'
  | [], fs', h => rfl
  | (f, b, x) :: fs, fs', h => by
    rw [List.cons_append, hput_cons, hput_cons, hput_append S fs fs']
theorem hput_none (S : Nat → Bool) : ∀ (fs : Fs) (h : H), (∀ x ∈ fs, S x.1 = false) → hput S h fs = h
  | [], h, _ => rfl
  | (f, b, x) :: fs, h, hx => by
    rw [hput_cons, hx (f, b, x) (by simp)]
    exact hput_none S fs h fun y hy => hx y (by simp [hy])
/-- Nothing is laid at this number. -/
theorem hput_out (S : Nat → Bool) : ∀ (fs : Fs) (h : H) (b : Nat), (∀ f x, (f, b, some x) ∈ fs → S f = false) → (hput S h fs).get b = h.get b
  | [], h, b, _ => rfl
  | (f, c, x) :: fs, h, b, hx => by
    rw [hput_cons, hput_out S fs _ b (fun f x m => hx f x (by simp [m]))]
    cases hS : S f with
    | false => rfl
    | true =>
      cases x with
      | none => rfl
      | some y =>
        show (H.get ⟨h.t.put c (some y), h.next, h.wb, h.st⟩ b) = _
        simp only [H.get, T.get_put]
        rw [if_neg (fun e => by subst e; have := hx f y (by simp); rw [hS] at this; cases this)]
theorem hput_in (S : Nat → Bool) : ∀ (fs : Fs) (h : H) (f b : Nat) (x : ABlk), (fs.map fun y => y.2.1).Nodup → (f, b, some x) ∈ fs → S f = true → (hput S h fs).get b = some x
  | [], h, f, b, x, _, m, _ => by cases m
  | (f', c, y) :: fs, h, f, b, x, nd, m, hS => by
    simp only [List.map_cons, List.nodup_cons] at nd
    rw [hput_cons]
    rcases List.mem_cons.1 m with e | m
    · cases e
      rw [hput_out S fs _ _ (fun f x m => absurd (List.mem_map.2 ⟨_, m, rfl⟩) nd.1), hS]
      show (H.get ⟨h.t.put _ (some x), h.next, h.wb, h.st⟩ _) = _
      simp [H.get, T.get_put]
    · exact hput_in S fs _ f b x nd.2 m hS
end
end
end Go.Proofs.YtfaemheimmndgaaGreatDoor.XI
