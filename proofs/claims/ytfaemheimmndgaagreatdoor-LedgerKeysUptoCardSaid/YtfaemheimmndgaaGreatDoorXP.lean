/- What readable arguments look like; what a law that holds says. Part of a verified reckoner of runs: no condition. -/
import Derived.Test.YtfaemheimmndgaaGreatDoorXQ
import Derived.ChangeShapes
import Derived.OpenShut
import Derived.RowKit
import Derived.Carry
import GoSem.ClaimChange
set_option linter.unusedVariables false
set_option linter.unusedSimpArgs false
namespace Go.Proofs.YtfaemheimmndgaaGreatDoor.XI
noncomputable section

/-! ### 24. What is handed in -/
/-- The abstract cells of plain data of a type. -/
inductive Shp (P : Program) : TypeId → List AV → Prop
  | bool {t : TypeId} (ht : P.underlying t = some .bool) (b : Bool) : Shp P t [.b b]
  | int {t : TypeId} {k : IntKind} (ht : P.underlying t = some (.int k)) (n : Int) (hn : (Lit.int k n).wf = true) : Shp P t [.i k n]
  | float {t : TypeId} {k : FloatKind} (ht : P.underlying t = some (.float k)) (n : Nat) (hn : (Lit.float k n).wf = true) : Shp P t [.f k n]
  | str {t : TypeId} (ht : P.underlying t = some .string) (s : ByteArray) (hs : s.size ≤ maxLen) : Shp P t [.s (nb s)]
  | sl {t e : TypeId} (ht : P.underlying t = some (.slice e)) (ess : List (List AV)) (hl : ess.length ≤ maxLen) (hz : ∀ c ∈ ess, c.length = P.cellsOf e) (h : ∀ c ∈ ess, Shp P e c) : Shp P t [.ro ess.flatten ess.length (P.cellsOf e)]
  | struct {t : TypeId} {fs : Array Field} (ht : P.underlying t = some (.struct fs)) (css : List (List AV)) (hl : css.length = fs.size) (h : ∀ (i : Nat) (f : Field) (c : List AV), fs[i]? = some f → css[i]? = some c → Shp P f.type c) : Shp P t css.flatten
  | arr {t e : TypeId} {n : Nat} (ht : P.underlying t = some (.array n e)) (css : List (List AV)) (hl : css.length = n) (h : ∀ c ∈ css, Shp P e c) : Shp P t css.flatten

/-- The fields lie one behind the other. -/
def contig (P : Program) : List Field → Nat → Nat → Bool
  | [], acc, n => Nat.beq acc n
  | f :: fs, acc, n => cond (Nat.beq f.offset acc) (contig P fs (acc + P.cellsOf f.type) n) false
def inT (S : List TypeId) (t : TypeId) : Bool := S.any fun x => Nat.beq x t
/-- Types of plain data, their parts among them. -/
def plainT (P : Program) (S : List TypeId) : Bool := S.all fun t => match P.underlying t with
  | some .bool | some (.int _) | some (.float _) | some .string => true
  | some (.slice e) => inT S e
  | some (.struct fs) => cond (contig P fs.toList 0 (P.cellsOf t)) (fs.toList.all fun f => inT S f.type) false
  | some (.array n e) => cond (inT S e) (Nat.beq (P.cellsOf t) (n * P.cellsOf e)) false
  | _ => false
theorem inT_iff {S : List TypeId} {t : TypeId} : inT S t = true ↔ t ∈ S := by
  unfold inT
  rw [List.any_eq_true]
  constructor
  · rintro ⟨x, h1, h2⟩; rw [natBeq] at h2; rw [← of_decide_eq_true h2]; exact h1
  · intro h; exact ⟨t, h, by rw [natBeq]; simp⟩

section
variable {P : Program} {σ : Nat → Loc} {A : Nat → Prop} {w : World} {val : Nat → Option Value} {Hh : Type} {enc : TypeId × Value → Hh} {spare : Nat → Bool} {held : Bool}

theorem RelL.flatten : ∀ {css : List (List AV)} {vss : List (List Value)} {M : Mem}, css.length = vss.length → (∀ (i : Nat) (c : List AV) (v : List Value), css[i]? = some c → vss[i]? = some v → RelL σ A M c v) → RelL σ A M css.flatten vss.flatten
  | [], [], M, _, _ => .nil
  | [], _ :: _, M, h, _ => by simp at h
  | _ :: _, [], M, h, _ => by simp at h
  | c :: css, v :: vss, M, h, hr => by
    simp only [List.flatten_cons]
    exact (hr 0 c v rfl rfl).append (RelL.flatten (by simpa using h) fun i c v h1 h2 => hr (i + 1) c v (by simpa using h1) (by simpa using h2))

theorem mapM_some {α β : Type} {f : α → Option β} : ∀ {l : List α} {r : List β}, l.mapM f = some r → r.length = l.length ∧ ∀ (i : Nat) (x : α), l[i]? = some x → ∃ y, r[i]? = some y ∧ f x = some y
  | [], r, h => by simp at h; subst h; exact ⟨rfl, fun i x hx => by simp at hx⟩
  | a :: l, r, h => by
    rw [List.mapM_cons] at h
    obtain ⟨y, hy, h⟩ := Option.bind_eq_some_iff.1 h
    obtain ⟨ys, hys, h⟩ := Option.bind_eq_some_iff.1 h
    cases h
    obtain ⟨h1, h2⟩ := mapM_some hys
    refine ⟨by simp [h1], fun i x hx => ?_⟩
    cases i with
    | zero => simp at hx; subst hx; exact ⟨y, rfl, hy⟩
    | succ i => exact h2 i x (by simpa using hx)

/-- The abstract cells of a row of parts. -/
theorem parts_rel {M : Mem} {ps : List (TypeId × List Value)} (h : ∀ (i : Nat) (t : TypeId) (c : List Value), ps[i]? = some (t, c) → ∃ avs, Shp P t avs ∧ RelL σ A M avs c) :
    ∃ css : List (List AV), css.length = ps.length ∧ ∀ (i : Nat) (t : TypeId) (c : List Value), ps[i]? = some (t, c) → ∃ avs, css[i]? = some avs ∧ Shp P t avs ∧ RelL σ A M avs c := by
  induction ps with
  | nil => exact ⟨[], rfl, fun i t c hx => by simp at hx⟩
  | cons p ps ih =>
    obtain ⟨css, h1, h2⟩ := ih fun i t c hx => h (i + 1) t c (by simpa using hx)
    obtain ⟨avs, g1, g2⟩ := h 0 p.1 p.2 rfl
    refine ⟨avs :: css, by simp [h1], fun i t c hx => ?_⟩
    cases i with
    | zero => simp at hx; subst hx; exact ⟨avs, rfl, g1, g2⟩
    | succ i => exact h2 i t c (by simpa using hx)

theorem contig_flatten : ∀ (fs : List Field) (acc n : Nat) (cs : List Value), contig P fs acc n = true → cs.length = n → acc ≤ n → (fs.map fun f => (cs.drop f.offset).take (P.cellsOf f.type)).flatten = cs.drop acc
  | [], acc, n, cs, h, hl, ha => by
    have h : Nat.beq acc n = true := h
    rw [natBeq] at h
    have := of_decide_eq_true h
    subst this
    simp [← hl]
  | f :: fs, acc, n, cs, h, hl, ha => by
    have h : cond (Nat.beq f.offset acc) (contig P fs (acc + P.cellsOf f.type) n) false = true := h
    rw [cond_eq_if, natBeq] at h
    split at h
    case isFalse => cases h
    rename_i ho
    have ho := of_decide_eq_true ho
    have hle : acc + P.cellsOf f.type ≤ n := by
      have : ∀ (fs : List Field) (acc n : Nat), contig P fs acc n = true → acc ≤ n := by
        intro fs
        induction fs with
        | nil => intro acc n h; have h : Nat.beq acc n = true := h; rw [natBeq] at h; have := of_decide_eq_true h; omega
        | cons g gs ih =>
          intro acc n h
          have h : cond (Nat.beq g.offset acc) (contig P gs (acc + P.cellsOf g.type) n) false = true := h
          rw [cond_eq_if] at h
          split at h
          · have := ih _ _ h; omega
          · cases h
      exact this _ _ _ h
    simp only [List.map_cons, List.flatten_cons, ho]
    rw [contig_flatten fs _ n cs h hl hle]
    rw [← List.drop_drop]
    exact List.take_append_drop _ _

theorem trod_rel {S : List TypeId} (hS : plainT P S = true) : ∀ (fuel : Nat) (t : TypeId) (cs : List Value) (x : DataW Hh × List MemPlace), t ∈ S → DataW.trod enc P w 0 spare held fuel t cs = some x →
    ∃ avs, Shp P t avs ∧ RelL σ A ⟨fun a => w.cell? a, val⟩ avs cs ∧ (P.cellsOf t = cs.length ∨ ∃ a, avs = [a])
  | 0, t, cs, x, _, h => by simp [DataW.trod] at h
  | fuel + 1, t, cs, x, ht, h => by
    have ih := trod_rel hS fuel
    have hSt := List.all_eq_true.1 hS t ht
    unfold DataW.trod at h
    split at h <;> (try (cases h; done)) <;> rename_i hu <;> rw [hu] at hSt <;> (try (cases hSt; done))
    · rename_i b
      cases h
      exact ⟨[.b b], .bool hu b, .singleton (.b b), .inr ⟨_, rfl⟩⟩
    · rename_i k k' n
      split at h
      · rename_i hk
        obtain ⟨rfl, hk⟩ := hk
        cases h
        exact ⟨[.i k' n], .int hu n hk, .singleton (.i _ _), .inr ⟨_, rfl⟩⟩
      · cases h
    · rename_i k k' n
      split at h
      · rename_i hk
        obtain ⟨rfl, hk⟩ := hk
        cases h
        exact ⟨[.f k' n], .float hu n hk, .singleton (.f _ _), .inr ⟨_, rfl⟩⟩
      · cases h
    · rename_i s
      split at h
      · rename_i hs
        cases h
        exact ⟨[.s (nb s)], .str hu s hs, .singleton (.s _ _ rfl), .inr ⟨_, rfl⟩⟩
      · cases h
    · rename_i e
      cases h
      exact ⟨[.ro [] 0 (P.cellsOf e)], .sl hu [] (Nat.zero_le _) (fun c hc => by cases hc) (fun c hc => by cases hc), .singleton (.ro0 _), .inr ⟨_, rfl⟩⟩
    · rename_i e a len cap
      have he : e ∈ S := inT_iff.1 hSt
      simp only at h
      split at h
      case isFalse => cases h
      rename_i hb
      obtain ⟨_, hlc, hcm⟩ := hb
      simp only [Option.bind_eq_some_iff] at h
      obtain ⟨elems, h1, _⟩ := h
      obtain ⟨l1, l2⟩ := mapM_some h1
      simp only [List.length_range] at l1
      have each : ∀ i, i < len → ∃ (c : List Value) (avs : List AV), c.length = P.cellsOf e ∧ (∀ j v, c[j]? = some v → w.cell? ((a.add (i * P.cellsOf e)).add j) = some v) ∧ Shp P e avs ∧ RelL σ A ⟨fun a => w.cell? a, val⟩ avs c := by
        intro i hi
        obtain ⟨y, _, hy⟩ := l2 i i (by simp [hi])
        obtain ⟨c, hc, hy⟩ := Option.bind_eq_some_iff.1 hy
        obtain ⟨avs, g1, g2, _⟩ := ih e c y he hy
        unfold World.cells? at hc
        rw [if_pos (Nat.zero_le _)] at hc
        obtain ⟨q1, q2⟩ := mapM_some hc
        simp only [List.length_range] at q1
        refine ⟨c, avs, q1, fun j v hv => ?_, g1, g2⟩
        have hj : j < P.cellsOf e := by rw [← q1]; exact (List.getElem?_eq_some_iff.1 hv).1
        obtain ⟨u, e1, e2⟩ := q2 j j (by simp [hj])
        rw [hv] at e1
        cases e1
        exact e2
      clear h1 l1 l2
      have all : ∀ m, m ≤ len → ∃ (css : List (List AV)) (vss : List (List Value)), css.length = m ∧ vss.length = m ∧ (∀ c ∈ css, Shp P e c) ∧ (∀ c ∈ css, c.length = P.cellsOf e) ∧ RelL σ A ⟨fun a => w.cell? a, val⟩ css.flatten vss.flatten ∧ vss.flatten.length = m * P.cellsOf e ∧
          ∀ j v, vss.flatten[j]? = some v → w.cell? (a.add j) = some v := by
        intro m
        induction m with
        | zero => intro _; exact ⟨[], [], rfl, rfl, fun c hc => (by cases hc), fun c hc => (by cases hc), .nil, by simp, fun j v hv => by simp at hv⟩
        | succ m im =>
          intro hm
          obtain ⟨css, vss, k1, k2, k3, k4, k5, k6, k7⟩ := im (by omega)
          obtain ⟨c, avs, q1, q2, q3, q4⟩ := each m (by omega)
          refine ⟨css ++ [avs], vss ++ [c], by simp [k1], by simp [k2], fun c hc => ?_, fun c hc => ?_, ?_, ?_, fun j v hv => ?_⟩
          · rcases List.mem_append.1 hc with hc | hc
            · exact k3 c hc
            · simp at hc; subst hc; exact q3
          · rcases List.mem_append.1 hc with hc | hc
            · exact k4 c hc
            · simp at hc; subst hc; rw [q4.length]; exact q1
          · simp only [List.flatten_append, List.flatten_cons, List.flatten_nil, List.append_nil]
            exact k5.append q4
          · simp only [List.flatten_append, List.flatten_cons, List.flatten_nil, List.append_nil, List.length_append, k6, q1]
            rw [Nat.add_mul, Nat.one_mul]
          · simp only [List.flatten_append, List.flatten_cons, List.flatten_nil, List.append_nil] at hv
            by_cases hj : j < vss.flatten.length
            · rw [List.getElem?_append_left hj] at hv
              exact k7 j v hv
            · rw [List.getElem?_append_right (by omega)] at hv
              have := q2 _ _ hv
              have e : (a.add (m * P.cellsOf e)).add (j - vss.flatten.length) = a.add j := by
                have hj' : j = m * P.cellsOf e + (j - vss.flatten.length) := by rw [k6] at hj ⊢; omega
                generalize j - vss.flatten.length = q at hj' ⊢
                subst hj'
                unfold Addr.add
                by_cases h1 : m * P.cellsOf e = 0 <;> by_cases h2 : q = 0 <;> simp [h1, h2, Nat.add_assoc]
              rw [e] at this
              exact this
      obtain ⟨css, vss, k1, k2, k3, k4, k5, k6, k7⟩ := all len (Nat.le_refl _)
      refine ⟨[.ro css.flatten css.length (P.cellsOf e)], .sl hu css (by omega) k4 k3, .singleton ?_, .inr ⟨_, rfl⟩⟩
      rw [k1]
      exact .ro _ _ _ _ _ _ (by rw [k5.length]; exact k6) hlc k5 k7
    · rename_i cs x0 cs1 fs
      simp only at hSt
      split at h
      case isFalse => cases h
      rename_i hl
      rw [cond_eq_if] at hSt
      split at hSt
      case isFalse => cases hSt
      rename_i hcon
      rw [List.all_eq_true] at hSt
      obtain ⟨ys, h1, _⟩ := Option.map_eq_some_iff.1 h
      obtain ⟨l1, l2⟩ := mapM_some h1
      obtain ⟨css, g1, g2⟩ := parts_rel (P := P) (σ := σ) (A := A) (M := ⟨fun a => w.cell? a, val⟩) (ps := fs.toList.map fun f => (f.type, (cs.drop f.offset).take (P.cellsOf f.type))) (by
        intro i t c hx
        rw [List.getElem?_map] at hx
        obtain ⟨f, hf, e⟩ := Option.map_eq_some_iff.1 hx
        cases e
        obtain ⟨y, _, hy⟩ := l2 i f hf
        obtain ⟨avs, q1, q2, _⟩ := ih f.type _ y (inT_iff.1 (hSt f (List.mem_of_getElem? hf))) hy
        exact ⟨avs, q1, q2⟩)
      refine ⟨css.flatten, .struct hu css (by rw [g1]; simp) (fun i f c hf hc => ?_), ?_, .inl hl.symm⟩
      · obtain ⟨avs, e1, e2, _⟩ := g2 i f.type ((cs.drop f.offset).take (P.cellsOf f.type)) (by rw [List.getElem?_map, show fs.toList[i]? = some f by simpa using hf]; rfl)
        rw [hc] at e1
        cases e1
        exact e2
      · have hcs := contig_flatten fs.toList 0 _ cs hcon hl (Nat.zero_le _)
        rw [List.drop_zero] at hcs
        rw [← hcs]
        refine RelL.flatten (by rw [g1]; simp) fun i c v hc hv => ?_
        rw [List.getElem?_map] at hv
        obtain ⟨f, hf, e⟩ := Option.map_eq_some_iff.1 hv
        obtain ⟨avs, e1, _, e3⟩ := g2 i f.type ((cs.drop f.offset).take (P.cellsOf f.type)) (by rw [List.getElem?_map, hf]; rfl)
        rw [hc] at e1
        cases e1
        rw [← e]
        exact e3
    · rename_i cs x0 cs1 n e
      simp only at hSt
      split at h
      case isFalse => cases h
      rename_i hl
      rw [cond_eq_if] at hSt
      split at hSt
      case isFalse => cases hSt
      rename_i he
      have he := inT_iff.1 he
      rw [natBeq] at hSt
      have hsz := of_decide_eq_true hSt
      obtain ⟨ys, h1, _⟩ := Option.map_eq_some_iff.1 h
      obtain ⟨l1, l2⟩ := mapM_some h1
      obtain ⟨css, g1, g2⟩ := parts_rel (P := P) (σ := σ) (A := A) (M := ⟨fun a => w.cell? a, val⟩) (ps := (List.range n).map fun i => (e, (cs.drop (i * P.cellsOf e)).take (P.cellsOf e))) (by
        intro i t c hx
        rw [List.getElem?_map] at hx
        obtain ⟨q, hq, e'⟩ := Option.map_eq_some_iff.1 hx
        cases e'
        obtain ⟨y, _, hy⟩ := l2 i q hq
        obtain ⟨avs, q1, q2, _⟩ := ih e _ y he hy
        exact ⟨avs, q1, q2⟩)
      simp only [List.length_map, List.length_range] at g1
      have hq : ∀ i, i < n → (List.range n)[i]? = some i := fun i hi => by simp [hi]
      refine ⟨css.flatten, .arr hu css g1 (fun c hc => ?_), ?_, .inl hl.symm⟩
      · obtain ⟨i, hi⟩ := List.mem_iff_getElem?.1 hc
        have hlt : i < n := by rw [← g1]; exact (List.getElem?_eq_some_iff.1 hi).1
        obtain ⟨avs, e1, e2, _⟩ := g2 i e _ (by rw [List.getElem?_map, hq i hlt]; rfl)
        rw [hi] at e1
        cases e1
        exact e2
      · have hcs : ((List.range n).map fun i => (cs.drop (i * P.cellsOf e)).take (P.cellsOf e)).flatten = cs := by
          have : ∀ m, m ≤ n → ((List.range m).map fun i => (cs.drop (i * P.cellsOf e)).take (P.cellsOf e)).flatten = cs.take (m * P.cellsOf e) := by
            intro m
            induction m with
            | zero => intro _; simp
            | succ m im =>
              intro hm
              rw [List.range_succ, List.map_append, List.flatten_append, im (by omega)]
              simp only [List.map_cons, List.map_nil, List.flatten_cons, List.flatten_nil, List.append_nil]
              rw [Nat.add_mul, Nat.one_mul, List.take_add]
          rw [this n (Nat.le_refl _), ← hsz, ← hl]
          simp
        conv => arg 5; rw [← hcs]
        refine RelL.flatten (by rw [g1]; simp) fun i c v hc hv => ?_
        rw [List.getElem?_map] at hv
        obtain ⟨q, hq', e'⟩ := Option.map_eq_some_iff.1 hv
        obtain ⟨avs, e1, _, e3⟩ := g2 i e ((cs.drop (q * P.cellsOf e)).take (P.cellsOf e)) (by rw [List.getElem?_map, hq']; rfl)
        rw [hc] at e1
        cases e1
        rw [← e']
        exact e3

/-! #### What a shape says -/
theorem Shp.struct_inv {t : TypeId} {fs : Array Field} {avs : List AV} (hu : P.underlying t = some (.struct fs)) (h : Shp P t avs) :
    ∃ css : List (List AV), avs = css.flatten ∧ css.length = fs.size ∧ ∀ (i : Nat) (f : Field) (c : List AV), fs[i]? = some f → css[i]? = some c → Shp P f.type c := by
  cases h with
  | struct ht css hl h => rw [hu] at ht; cases ht; exact ⟨css, rfl, hl, h⟩
  | bool ht => rw [hu] at ht; cases ht
  | int ht => rw [hu] at ht; cases ht
  | float ht => rw [hu] at ht; cases ht
  | str ht => rw [hu] at ht; cases ht
  | sl ht => rw [hu] at ht; cases ht
  | arr ht => rw [hu] at ht; cases ht
theorem Shp.arr_inv {t e : TypeId} {n : Nat} {avs : List AV} (hu : P.underlying t = some (.array n e)) (h : Shp P t avs) : ∃ css : List (List AV), avs = css.flatten ∧ css.length = n ∧ ∀ c ∈ css, Shp P e c := by
  cases h with
  | arr ht css hl h => rw [hu] at ht; cases ht; exact ⟨css, rfl, hl, h⟩
  | bool ht => rw [hu] at ht; cases ht
  | int ht => rw [hu] at ht; cases ht
  | float ht => rw [hu] at ht; cases ht
  | str ht => rw [hu] at ht; cases ht
  | sl ht => rw [hu] at ht; cases ht
  | struct ht => rw [hu] at ht; cases ht
theorem Shp.sl_inv {t e : TypeId} {avs : List AV} (hu : P.underlying t = some (.slice e)) (h : Shp P t avs) :
    ∃ ess : List (List AV), avs = [.ro ess.flatten ess.length (P.cellsOf e)] ∧ ess.length ≤ maxLen ∧ (∀ c ∈ ess, c.length = P.cellsOf e) ∧ ∀ c ∈ ess, Shp P e c := by
  cases h with
  | sl ht ess hl hz h => rw [hu] at ht; cases ht; exact ⟨ess, rfl, hl, hz, h⟩
  | bool ht => rw [hu] at ht; cases ht
  | int ht => rw [hu] at ht; cases ht
  | float ht => rw [hu] at ht; cases ht
  | str ht => rw [hu] at ht; cases ht
  | arr ht => rw [hu] at ht; cases ht
  | struct ht => rw [hu] at ht; cases ht
theorem Shp.int_inv {t : TypeId} {k : IntKind} {avs : List AV} (hu : P.underlying t = some (.int k)) (h : Shp P t avs) : ∃ n, avs = [.i k n] ∧ (Lit.int k n).wf = true := by
  cases h with
  | int ht n hn => rw [hu] at ht; cases ht; exact ⟨n, rfl, hn⟩
  | sl ht => rw [hu] at ht; cases ht
  | bool ht => rw [hu] at ht; cases ht
  | float ht => rw [hu] at ht; cases ht
  | str ht => rw [hu] at ht; cases ht
  | arr ht => rw [hu] at ht; cases ht
  | struct ht => rw [hu] at ht; cases ht
theorem Shp.float_inv {t : TypeId} {k : FloatKind} {avs : List AV} (hu : P.underlying t = some (.float k)) (h : Shp P t avs) : ∃ n, avs = [.f k n] ∧ (Lit.float k n).wf = true := by
  cases h with
  | float ht n hn => rw [hu] at ht; cases ht; exact ⟨n, rfl, hn⟩
  | sl ht => rw [hu] at ht; cases ht
  | bool ht => rw [hu] at ht; cases ht
  | int ht => rw [hu] at ht; cases ht
  | str ht => rw [hu] at ht; cases ht
  | arr ht => rw [hu] at ht; cases ht
  | struct ht => rw [hu] at ht; cases ht
theorem Shp.bool_inv {t : TypeId} {avs : List AV} (hu : P.underlying t = some .bool) (h : Shp P t avs) : ∃ b, avs = [.b b] := by
  cases h with
  | bool ht b => exact ⟨b, rfl⟩
  | sl ht => rw [hu] at ht; cases ht
  | float ht => rw [hu] at ht; cases ht
  | int ht => rw [hu] at ht; cases ht
  | str ht => rw [hu] at ht; cases ht
  | arr ht => rw [hu] at ht; cases ht
  | struct ht => rw [hu] at ht; cases ht
theorem Shp.str_inv {t : TypeId} {avs : List AV} (hu : P.underlying t = some .string) (h : Shp P t avs) : ∃ s : ByteArray, avs = [.s (nb s)] ∧ s.size ≤ maxLen := by
  cases h with
  | str ht s hs => exact ⟨s, rfl, hs⟩
  | sl ht => rw [hu] at ht; cases ht
  | float ht => rw [hu] at ht; cases ht
  | int ht => rw [hu] at ht; cases ht
  | bool ht => rw [hu] at ht; cases ht
  | arr ht => rw [hu] at ht; cases ht
  | struct ht => rw [hu] at ht; cases ht
theorem len_cons {α : Type} {l : List α} {n : Nat} (h : l.length = n + 1) : ∃ x t, l = x :: t ∧ t.length = n := by
  cases l with
  | nil => simp at h
  | cons x t => exact ⟨x, t, rfl, by simpa using h⟩
theorem len_nil {α : Type} {l : List α} (h : l.length = 0) : l = [] := by cases l with | nil => rfl | cons _ _ => simp at h

/-! #### Arguments -/
def argOf (P : Program) (t : TypeId) (avs : List AV) : AV := match P.underlying t with
  | some (.struct _) | some (.array _ _) => .agg avs
  | _ => (match avs with | [a] => a | _ => .any)
def ShpA (P : Program) (t : TypeId) (a : AV) : Prop := ∃ avs, Shp P t avs ∧ a = argOf P t avs
inductive ShpL (P : Program) : List TypeId → List AV → Prop
  | nil : ShpL P [] []
  | cons {t : TypeId} {ts : List TypeId} {a : AV} {as : List AV} (h : ShpA P t a) (r : ShpL P ts as) : ShpL P (t :: ts) (a :: as)

theorem arg_rel {S : List TypeId} (hS : plainT P S = true) {t : TypeId} (ht : t ∈ S) {v : Value} {r : Reach} {b0 : Nat} {w0 : World} (hv : Value.okWide P w0 r b0 t v) {d : DataW Hh} {p : List MemPlace} (hd : DataW.Trod enc P w 0 spare held t v d p) :
    ∃ a, ShpA P t a ∧ RelV σ A ⟨fun a => w.cell? a, val⟩ a v := by
  obtain ⟨fuel, hf⟩ := hd
  obtain ⟨avs, h1, h2, _⟩ := trod_rel (σ := σ) (A := A) (val := val) hS fuel t _ _ ht hf
  refine ⟨argOf P t avs, ⟨avs, h1, rfl⟩, ?_⟩
  have hSt := List.all_eq_true.1 hS t ht
  unfold argOf
  have one : ∀ (a : AV), avs = [a] → v.cells = #[v] → RelV σ A ⟨fun a => w.cell? a, val⟩ a v := by
    intro a ha hc
    rw [ha, hc] at h2
    cases h2 with | cons _ _ _ _ g _ => exact g
  unfold Value.okWide at hv
  cases h1 with
  | bool hu b =>
    rw [hu] at hv ⊢
    have hc : v.cells = #[v] := by cases v <;> first | rfl | (simp [Cell.okWide, Cell.ok, hu] at hv)
    exact one _ rfl hc
  | int hu n hn =>
    rw [hu] at hv ⊢
    have hc : v.cells = #[v] := by cases v <;> first | rfl | (simp [Cell.okWide, Cell.ok, hu] at hv)
    exact one _ rfl hc
  | float hu n hn =>
    rw [hu] at hv ⊢
    have hc : v.cells = #[v] := by cases v <;> first | rfl | (simp [Cell.okWide, Cell.ok, hu] at hv)
    exact one _ rfl hc
  | str hu s hs =>
    rw [hu] at hv ⊢
    have hc : v.cells = #[v] := by cases v <;> first | rfl | (simp [Cell.okWide, Cell.ok, hu] at hv)
    exact one _ rfl hc
  | sl hu ess hl hz h =>
    rw [hu] at hv ⊢
    have hc : v.cells = #[v] := by cases v <;> first | rfl | (simp [Cell.okWide, Cell.ok, hu] at hv)
    exact one _ rfl hc
  | struct hu css hl h =>
    rw [hu] at hv ⊢
    obtain ⟨cs, rfl, _, _⟩ := hv
    exact .agg _ _ h2
  | arr hu css hl h =>
    rw [hu] at hv ⊢
    obtain ⟨cs, rfl, _, _⟩ := hv
    exact .agg _ _ h2

theorem args_rel {S : List TypeId} (hS : plainT P S = true) {r : Reach} {b0 : Nat} {w0 : World} : ∀ {ts : List TypeId} {vs : List Value} {ds : List (DataW Hh)} {ps : List MemPlace}, (∀ t ∈ ts, t ∈ S) → (∀ (j : Nat) t v, ts[j]? = some t → vs[j]? = some v → Value.okWide P w0 r b0 t v) →
    DataW.TrodAll enc P w 0 spare held ts vs ds ps → ∃ xs, ShpL P ts xs ∧ RelL σ A ⟨fun a => w.cell? a, val⟩ xs vs
  | [], vs, ds, ps, _, _, h => by
    obtain ⟨rfl, rfl, rfl⟩ := ChangeShapes.trodAll_nil h
    exact ⟨[], .nil, .nil⟩
  | t :: ts, vs, ds, ps, hts, hv, h => by
    obtain ⟨v, vs', d, ds', p, q, rfl, rfl, rfl, hd, hrest⟩ := ChangeShapes.trodAll_cons h
    obtain ⟨a, h1, h2⟩ := arg_rel (σ := σ) (A := A) (val := val) hS (hts t (by simp)) (hv 0 t v rfl rfl) hd
    obtain ⟨xs, h3, h4⟩ := args_rel hS (ts := ts) (fun t ht => hts t (by simp [ht])) (fun j t v h1 h2 => hv (j + 1) t v (by simpa using h1) (by simpa using h2)) hrest
    exact ⟨a :: xs, .cons h1 h3, .cons _ _ _ _ h2 h4⟩

theorem argOf_struct {t : TypeId} {fs : Array Field} {avs : List AV} (hu : P.underlying t = some (.struct fs)) : argOf P t avs = .agg avs := by unfold argOf; rw [hu]
theorem argOf_array {t e : TypeId} {n : Nat} {avs : List AV} (hu : P.underlying t = some (.array n e)) : argOf P t avs = .agg avs := by unfold argOf; rw [hu]
theorem argOf_one {t : TypeId} {a : AV} {d : TypeDesc} (hu : P.underlying t = some d) (h : (match d with | .struct _ | .array _ _ => false | _ => true) = true) : argOf P t [a] = a := by unfold argOf; rw [hu]; cases d <;> first | rfl | cases h

theorem trodAll_len {ts : List TypeId} {vs : List Value} {ds : List (DataW Hh)} {ps : List MemPlace} (h : DataW.TrodAll enc P w 0 spare held ts vs ds ps) : vs.length = ts.length ∧ ds.length = ts.length := by
  induction ts generalizing vs ds ps with
  | nil => obtain ⟨rfl, rfl, rfl⟩ := ChangeShapes.trodAll_nil h; exact ⟨rfl, rfl⟩
  | cons t ts ih =>
    obtain ⟨v, vs', d, ds', p, q, rfl, rfl, rfl, hd, hrest⟩ := ChangeShapes.trodAll_cons h
    obtain ⟨h1, h2⟩ := ih hrest
    exact ⟨by simp [h1], by simp [h2]⟩

/-- What a whole reading of a call's arguments says of them. -/
theorem whole_rel {S : List TypeId} (hS : plainT P S = true) {f : Func} {W : World} {args : Array Value} {vars : List String} {ds gs : List (DataW Hh)} {before : List MemPlace} {r : Reach} {b0 : Nat} {w0 : World} (hts : f.params.toList.all (inT S ·) = true)
    (hv : ∀ (j : Nat) t v, f.params[j]? = some t → args[j]? = some v → Value.okWide P w0 r b0 t v) (hW : DataW.Whole enc P f.params.toList vars false W args.toList ds gs before) (h0 : vars = []) :
    ∃ xs, ShpL P f.params.toList xs ∧ RelL σ A ⟨fun a => W.cell? a, val⟩ xs args.toList ∧ ds.length = f.params.toList.length ∧ gs = [] := by
  obtain ⟨p, q, hA0, hV, rfl, hfz, hnd⟩ := hW
  subst h0
  obtain ⟨rfl, rfl⟩ := ChangeShapes.trodVars_none hV
  obtain ⟨xs, h1, h2⟩ := args_rel (σ := σ) (A := A) (val := val) hS (fun t ht => inT_iff.1 (List.all_eq_true.1 hts t ht)) (fun j t v h1 h2 => hv j t v (by simpa using h1) (by simpa using h2)) hA0
  exact ⟨xs, h1, h2, (trodAll_len hA0).2, rfl⟩

/-- Arguments read behind the call as they did before. -/
theorem args_stay (hl : laidOutB P = true) {W W' : World} (hb : RowKit.Below W.heap.size W W') : ∀ {ts : List TypeId} {vs : List Value} {ds : List (DataW Hh)} {ps : List MemPlace}, ts.all (fun t => P.readableRec t && decide (t < P.types.size)) = true →
    DataW.TrodAll enc P W 0 (fun _ => true) true ts vs ds ps → (∀ x ∈ ps, x.block < W.heap.size) → DataW.TrodAll enc P W' 0 (fun b => decide (b < W.heap.size)) true ts vs ds ps
  | [], vs, ds, ps, _, h, _ => by
    obtain ⟨rfl, rfl, rfl⟩ := ChangeShapes.trodAll_nil h
    exact ChangeShapes.trodAll_mk0
  | t :: ts, vs, ds, ps, hts, h, hlt => by
    obtain ⟨v, vs', d, ds', p, q, rfl, rfl, rfl, hd, hrest⟩ := ChangeShapes.trodAll_cons h
    simp only [List.all_cons, Bool.and_eq_true, decide_eq_true_eq] at hts
    exact ⟨p, q, RowKit.Below.trod hl hts.1.1 hts.1.2 hd hb (fun x hx => hlt x (by simp [hx])), args_stay hl hb hts.2 hrest (fun x hx => hlt x (by simp [hx])), rfl⟩

theorem kept_of_below {W W' : World} (may : MemPlace → Prop) (b : RowKit.Below W.heap.size W W') : W.keptBut W' may := by
  refine ⟨b.os, b.output, fun i hi => ?_⟩
  rw [b.block i hi]
  split
  · rename_i heq1 heq2; rw [heq1] at heq2; cases heq2; exact ⟨rfl, rfl, rfl, fun _ _ => rfl⟩
  · rename_i heq1 heq2; rw [heq1] at heq2; cases heq2; exact .inr ⟨rfl, rfl⟩
  · rfl

/-- A law that answers true, and writes nothing that was there. -/
theorem law_post {f : Func} {s : ChangeSpec} {W W' : World} {args : Array Value} {ds gs : List (DataW Hh)} {before : List MemPlace} (hW : DataW.Whole enc P f.params.toList s.vars false W args.toList ds gs before) (hv : s.vars = [])
    (hfn : (s.fn Hh ds).results = [.lit (.bool true)] ∧ (s.fn Hh ds).args = ds ∧ (s.fn Hh ds).vars = []) {tb : TypeId} (hr : f.resultTypes = #[tb]) (htb : P.underlying tb = some .bool) (hl : laidOutB P = true) (hts : f.params.toList.all (fun t => P.readableRec t && decide (t < P.types.size)) = true) (hb : RowKit.Below W.heap.size W W') :
    s.post enc P f false true false false W args (.bool true) W' := by
  have hW' := hW
  obtain ⟨p, q, hA, hV, hps, hfz, hnd⟩ := hW
  rw [hv] at hV
  obtain ⟨hgs, hq⟩ := ChangeShapes.trodVars_none hV
  have hds : ds ++ gs = ds := by rw [hgs]; simp
  have hpp : before = p := by rw [hps, hq]; simp
  have hlt : ∀ x ∈ before, x.block < W.heap.size := fun x hx => hW'.lt x hx
  refine ⟨ds, gs, before, [], p, [], hW', ?_, ?_, ?_, kept_of_below _ hb, fun h => by cases h⟩
  · rw [hds, hfn.1, hr]
    exact ChangeShapes.trodAll_mk1 (RowKit.shut_bool htb true)
  · rw [hds, hfn.2.1]
    exact args_stay hl hb hts hA (fun x hx => hlt x (by rw [hpp]; exact hx))
  · rw [hv, hds, hfn.2.2]
    rfl
end
end
end Go.Proofs.YtfaemheimmndgaaGreatDoor.XI
