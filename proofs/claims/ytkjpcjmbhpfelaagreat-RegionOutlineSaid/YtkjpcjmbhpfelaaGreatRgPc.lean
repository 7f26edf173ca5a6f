/- Step functions as lists of intervals: one list for one function. No program stands here. -/
namespace Go.Reg

abbrev Pc (V : Type) := Int × Int × V
section
variable {V : Type} (d : V)
def OKP : List (Pc V) → Prop
  | [] => True
  | p :: ps => p.1 < p.2.1 ∧ p.2.2 ≠ d ∧ (∀ q ∈ ps.head?, p.2.1 ≤ q.1 ∧ (p.2.1 = q.1 → p.2.2 ≠ q.2.2)) ∧ OKP ps
def atP : List (Pc V) → Int → V
  | [], _ => d
  | p :: ps, y => if p.1 ≤ y ∧ y < p.2.1 then p.2.2 else atP ps y
variable {d}
theorem OKP.tail {p : Pc V} {ps : List (Pc V)} (h : OKP d (p :: ps)) : OKP d ps := h.2.2.2
theorem OKP.low {p : Pc V} {ps : List (Pc V)} (h : OKP d (p :: ps)) : ∀ q ∈ ps, p.2.1 ≤ q.1 := by
  induction ps generalizing p with
  | nil => intro q hq; cases hq
  | cons r rs ih =>
    intro q hq
    have h1 := (h.2.2.1 r rfl).1
    rcases List.mem_cons.1 hq with rfl | hq
    · exact h1
    · have := ih h.tail q hq
      have := h.tail.1
      omega
theorem OKP.pos {ps : List (Pc V)} (h : OKP d ps) : ∀ q ∈ ps, q.1 < q.2.1 ∧ q.2.2 ≠ d := by
  induction ps with
  | nil => intro q hq; cases hq
  | cons r rs ih =>
    intro q hq
    rcases List.mem_cons.1 hq with rfl | hq
    · exact ⟨h.1, h.2.1⟩
    · exact ih h.tail q hq
theorem atP_below {ps : List (Pc V)} {y : Int} (h : ∀ q ∈ ps, y < q.1) : atP d ps y = d := by
  induction ps with
  | nil => rfl
  | cons r rs ih =>
    have := h r List.mem_cons_self
    rw [atP, if_neg (by omega)]
    exact ih fun q hq => h q (List.mem_cons_of_mem _ hq)
theorem atP_above {ps : List (Pc V)} {y : Int} (h : ∀ q ∈ ps, q.2.1 ≤ y) : atP d ps y = d := by
  induction ps with
  | nil => rfl
  | cons r rs ih =>
    have := h r List.mem_cons_self
    rw [atP, if_neg (by omega)]
    exact ih fun q hq => h q (List.mem_cons_of_mem _ hq)
theorem OKP.uniq {P Q : List (Pc V)} (hP : OKP d P) (hQ : OKP d Q) (h : ∀ y, atP d P y = atP d Q y) : P = Q := by
  induction P generalizing Q with
  | nil =>
    cases Q with
    | nil => rfl
    | cons q qs =>
      have h1 := h q.1
      rw [atP, atP, if_pos ⟨Int.le_refl _, hQ.1⟩] at h1
      exact absurd h1.symm hQ.2.1
  | cons p ps ih =>
    cases Q with
    | nil =>
      have h1 := h p.1
      rw [atP, atP, if_pos ⟨Int.le_refl _, hP.1⟩] at h1
      exact absurd h1 hP.2.1
    | cons q qs =>
      have lp := hP.low
      have lq := hQ.low
      have p1 := hP.1
      have q1 := hQ.1
      have hfrom : p.1 = q.1 := by
        rcases Int.lt_trichotomy p.1 q.1 with hlt | he | hlt
        · have h1 := h p.1
          rw [atP, if_pos ⟨Int.le_refl _, hP.1⟩, atP_below fun r hr => by
            rcases List.mem_cons.1 hr with rfl | hr
            · exact hlt
            · have := lq r hr; omega] at h1
          exact absurd h1 hP.2.1
        · exact he
        · have h1 := h q.1
          rw [atP_below (ps := p :: ps) fun r hr => by
            rcases List.mem_cons.1 hr with rfl | hr
            · exact hlt
            · have := lp r hr; omega, atP, if_pos ⟨Int.le_refl _, hQ.1⟩] at h1
          exact absurd h1.symm hQ.2.1
      have hval : p.2.2 = q.2.2 := by
        have h1 := h p.1
        rw [atP, atP, if_pos ⟨Int.le_refl _, hP.1⟩, if_pos (by omega)] at h1
        exact h1
      have tail_at : ∀ {a : Pc V} {as : List (Pc V)}, OKP d (a :: as) → atP d as a.2.1 ≠ a.2.2 := fun {a as} ha => by
        cases as with
        | nil => exact fun e => ha.2.1 e.symm
        | cons b bs =>
          obtain ⟨k1, k2⟩ := ha.2.2.1 b rfl
          by_cases e : a.2.1 = b.1
          · rw [atP, if_pos ⟨by omega, by have := ha.tail.1; omega⟩]
            exact fun e' => k2 e e'.symm
          · rw [atP_below fun r hr => by
              rcases List.mem_cons.1 hr with rfl | hr
              · omega
              · have := ha.tail.low r hr; have := ha.tail.1; omega]
            exact fun e' => ha.2.1 e'.symm
      have hto : p.2.1 = q.2.1 := by
        rcases Int.lt_trichotomy p.2.1 q.2.1 with hlt | he | hlt
        · have h1 := h p.2.1
          rw [atP, if_neg (by omega), atP, if_pos (by omega)] at h1
          exact absurd (h1.trans hval.symm) (tail_at hP)
        · exact he
        · have h1 := h q.2.1
          rw [atP, if_pos (by omega), atP, if_neg (by omega)] at h1
          exact absurd (h1.symm.trans hval) (tail_at hQ)
      have : ps = qs := ih hP.tail hQ.tail fun y => by
        by_cases hy : y < p.2.1
        · rw [atP_below fun r hr => by have := lp r hr; omega, atP_below fun r hr => by have := lq r hr; omega]
        · have h1 := h y
          rw [atP, atP, if_neg (by omega), if_neg (by omega)] at h1
          exact h1
      rw [this]
      congr 1
      exact Prod.ext hfrom (Prod.ext hto hval)

/-! at the end -/
theorem OKP.snoc_iff {P : List (Pc V)} {q : Pc V} : OKP d (P ++ [q]) ↔ OKP d P ∧ q.1 < q.2.1 ∧ q.2.2 ≠ d ∧ ∀ l ∈ P.getLast?, l.2.1 ≤ q.1 ∧ (l.2.1 = q.1 → l.2.2 ≠ q.2.2) := by
  induction P with
  | nil => simp [OKP]
  | cons p ps ih =>
    rw [List.cons_append, OKP, OKP, ih]
    cases ps with
    | nil =>
      simp only [List.head?_nil, List.nil_append, List.head?_cons, List.getLast?_nil, List.getLast?_singleton, OKP]
      constructor
      · rintro ⟨h1, h2, h3, h4⟩; obtain ⟨_, h5, h6, _⟩ := h4; exact ⟨⟨h1, h2, (fun _ hq => by cases hq), trivial⟩, h5, h6, fun l hl => by cases hl; exact h3 q rfl⟩
      · rintro ⟨⟨h1, h2, _, _⟩, h5, h6, h7⟩; exact ⟨h1, h2, (fun l hl => by cases hl; exact h7 p rfl), trivial, h5, h6, (fun _ hq => by cases hq)⟩
    | cons r rs =>
      rw [List.cons_append, List.head?_cons, List.head?_cons, List.getLast?_cons_cons]
      constructor
      · rintro ⟨h1, h2, h3, h4, h5⟩; exact ⟨⟨h1, h2, h3, h4⟩, h5⟩
      · rintro ⟨⟨h1, h2, h3, h4⟩, h5⟩; exact ⟨h1, h2, h3, h4, h5⟩
theorem atP_snoc {P : List (Pc V)} {q : Pc V} (h : ∀ p ∈ P, p.2.1 ≤ q.1) (y : Int) : atP d (P ++ [q]) y = if q.1 ≤ y ∧ y < q.2.1 then q.2.2 else atP d P y := by
  induction P with
  | nil => rfl
  | cons p ps ih =>
    have h1 := h p List.mem_cons_self
    rw [List.cons_append, atP, atP, ih fun r hr => h r (List.mem_cons_of_mem _ hr)]
    by_cases k : q.1 ≤ y ∧ y < q.2.1
    · rw [if_pos k, if_neg (by omega), if_pos k]
    · rw [if_neg k, if_neg k]
theorem OKP.last_to {P : List (Pc V)} {q : Pc V} (h : OKP d (P ++ [q])) : ∀ p ∈ P, p.2.1 ≤ q.1 := by
  induction P with
  | nil => intro p hp; cases hp
  | cons p ps ih =>
    intro r hr
    rcases List.mem_cons.1 hr with rfl | hr
    · exact OKP.low h q (by simp)
    · exact ih h.tail r hr
/-- the last piece made longer -/
theorem OKP.grow {P : List (Pc V)} {a lo hi : Int} {v : V} (h : OKP d (P ++ [(a, lo, v)])) (hlt : lo < hi) :
    OKP d (P ++ [(a, hi, v)]) ∧ (∀ p ∈ P ++ [(a, hi, v)], p.2.1 ≤ hi) ∧ ∀ y, atP d (P ++ [(a, hi, v)]) y = if lo ≤ y ∧ y < hi then v else atP d (P ++ [(a, lo, v)]) y := by
  have hl := h.last_to
  obtain ⟨h1, h2, h3, h4⟩ := OKP.snoc_iff.1 h
  simp only at h2 h3 h4 hl
  refine ⟨OKP.snoc_iff.2 ⟨h1, by show a < hi; omega, h3, h4⟩, fun p hp => ?_, fun y => ?_⟩
  · rcases List.mem_append.1 hp with hp | hp
    · have := hl p hp; omega
    · rw [List.mem_singleton.1 hp]; exact Int.le_refl _
  · rw [atP_snoc hl, atP_snoc hl]
    dsimp only
    by_cases k : lo ≤ y ∧ y < hi
    · rw [if_pos k, if_pos (by omega)]
    · rw [if_neg k]
      by_cases k2 : a ≤ y ∧ y < lo
      · rw [if_pos k2, if_pos (by omega)]
      · rw [if_neg k2, if_neg (by omega)]
/-- a piece behind the last -/
theorem OKP.push {P : List (Pc V)} {lo hi : Int} {v : V} (h : OKP d P) (hle : ∀ p ∈ P, p.2.1 ≤ lo) (hlt : lo < hi) (hv : v ≠ d) (hne : ∀ l ∈ P.getLast?, l.2.1 = lo → l.2.2 ≠ v) :
    OKP d (P ++ [(lo, hi, v)]) ∧ (∀ p ∈ P ++ [(lo, hi, v)], p.2.1 ≤ hi) ∧ ∀ y, atP d (P ++ [(lo, hi, v)]) y = if lo ≤ y ∧ y < hi then v else atP d P y := by
  refine ⟨OKP.snoc_iff.2 ⟨h, hlt, hv, fun l hl => ⟨hle l (List.mem_of_getLast? hl), hne l hl⟩⟩, fun p hp => ?_, atP_snoc hle⟩
  rcases List.mem_append.1 hp with hp | hp
  · have := hle p hp; omega
  · rw [List.mem_singleton.1 hp]; exact Int.le_refl _
theorem atP_mem {P : List (Pc V)} {y : Int} : atP d P y = d ∨ ∃ p ∈ P, p.1 ≤ y ∧ y < p.2.1 ∧ atP d P y = p.2.2 := by
  induction P with
  | nil => exact .inl rfl
  | cons p ps ih =>
    by_cases k : p.1 ≤ y ∧ y < p.2.1
    · exact .inr ⟨p, List.mem_cons_self, k.1, k.2, by rw [atP, if_pos k]⟩
    · rw [atP, if_neg k]
      rcases ih with h | ⟨q, hq, h⟩
      · exact .inl h
      · exact .inr ⟨q, List.mem_cons_of_mem _ hq, h⟩
theorem OKP.at_mem {P : List (Pc V)} (h : OKP d P) {p : Pc V} (hp : p ∈ P) {y : Int} (h1 : p.1 ≤ y) (h2 : y < p.2.1) : atP d P y = p.2.2 := by
  induction P with
  | nil => cases hp
  | cons q qs ih =>
    rcases List.mem_cons.1 hp with rfl | hp
    · rw [atP, if_pos ⟨h1, h2⟩]
    · have := h.low p hp
      rw [atP, if_neg (by omega)]
      exact ih h.tail hp
end

/-! ## runs -/
abbrev Run := Int × Int
def runPc (l : List Run) : List (Pc Bool) := l.map fun r => (r.1, r.2, true)
def OKR (l : List Run) : Prop := OKP false (runPc l)
def inRuns (l : List Run) (x : Int) : Bool := l.any fun r => decide (r.1 ≤ x) && decide (x < r.2)
theorem inRuns_at (l : List Run) (x : Int) : inRuns l x = atP false (runPc l) x := by
  induction l with
  | nil => rfl
  | cons r rs ih =>
    show inRuns (r :: rs) x = atP false ((r.1, r.2, true) :: runPc rs) x
    rw [atP, ← ih]
    by_cases k : r.1 ≤ x ∧ x < r.2
    · rw [if_pos k]; simp [inRuns, k]
    · rw [if_neg k]
      have : (decide (r.1 ≤ x) && decide (x < r.2)) = false := by
        rw [Bool.eq_false_iff]; simp only [ne_eq, Bool.and_eq_true, decide_eq_true_eq]; exact k
      unfold inRuns
      rw [List.any_cons, this, Bool.false_or]
theorem runPc_inj {l m : List Run} (h : runPc l = runPc m) : l = m := by
  have := congrArg (List.map fun p : Pc Bool => (p.1, p.2.1)) h
  simpa [runPc, Function.comp_def] using this
theorem OKR.uniq {l m : List Run} (hl : OKR l) (hm : OKR m) (h : ∀ x, inRuns l x = inRuns m x) : l = m :=
  runPc_inj (OKP.uniq hl hm fun y => by rw [← inRuns_at, ← inRuns_at]; exact h y)
theorem OKR.nil : OKR [] := trivial
theorem runPc_append (l m : List Run) : runPc (l ++ m) = runPc l ++ runPc m := List.map_append
theorem runPc_one (a b : Int) : runPc [(a, b)] = [(a, b, true)] := rfl
theorem runPc_mem {l : List Run} {p : Pc Bool} : p ∈ runPc l ↔ p.2.2 = true ∧ (p.1, p.2.1) ∈ l := by
  unfold runPc
  rw [List.mem_map]
  constructor
  · rintro ⟨r, hr, rfl⟩; exact ⟨rfl, hr⟩
  · rintro ⟨h1, h2⟩; exact ⟨_, h2, Prod.ext rfl (Prod.ext rfl h1.symm)⟩
theorem OKR.push {l : List Run} {lo hi : Int} (h : OKR l) (hle : ∀ r ∈ l, r.2 ≤ lo) (hlt : lo < hi) (hne : ∀ r ∈ l.getLast?, r.2 ≠ lo) :
    OKR (l ++ [(lo, hi)]) ∧ (∀ r ∈ l ++ [(lo, hi)], r.2 ≤ hi) ∧ ∀ x, inRuns (l ++ [(lo, hi)]) x = (inRuns l x || (decide (lo ≤ x) && decide (x < hi))) := by
  have := OKP.push (d := false) (P := runPc l) (lo := lo) (hi := hi) (v := true) h (fun p hp => hle _ (runPc_mem.1 hp).2) hlt (by simp) (fun p hp e => by
    unfold runPc at hp
    rw [List.getLast?_map] at hp
    cases hg : l.getLast? with
    | none => rw [hg] at hp; cases hp
    | some r => rw [hg] at hp; simp at hp; subst hp; exact absurd e (hne r hg))
  obtain ⟨h1, h2, h3⟩ := this
  refine ⟨by unfold OKR; rw [runPc_append]; exact h1, fun r hr => ?_, fun x => by simp [inRuns]⟩
  rcases List.mem_append.1 hr with hr | hr
  · have := hle r hr; omega
  · rw [List.mem_singleton.1 hr]; exact Int.le_refl _
theorem OKR.grow {l : List Run} {a lo hi : Int} (h : OKR (l ++ [(a, lo)])) (hlt : lo < hi) :
    OKR (l ++ [(a, hi)]) ∧ (∀ r ∈ l ++ [(a, hi)], r.2 ≤ hi) ∧ ∀ x, inRuns (l ++ [(a, hi)]) x = (inRuns (l ++ [(a, lo)]) x || (decide (lo ≤ x) && decide (x < hi))) := by
  unfold OKR at h
  rw [runPc_append, runPc_one] at h
  obtain ⟨h1, h2, h3⟩ := h.grow hlt
  refine ⟨by unfold OKR; rw [runPc_append]; exact h1, fun r hr => h2 (r.1, r.2, true) ?_, fun x => ?_⟩
  · rw [← runPc_one, ← runPc_append]; exact runPc_mem.2 ⟨rfl, hr⟩
  · have := (OKP.snoc_iff.1 h).2.1
    simp only at this
    simp only [inRuns, List.any_append, List.any_cons, List.any_nil, Bool.or_false]
    cases (l.any fun r => decide (r.1 ≤ x) && decide (x < r.2))
    · simp only [Bool.false_or]
      rw [Bool.eq_iff_iff]
      simp only [Bool.or_eq_true, Bool.and_eq_true, decide_eq_true_eq]
      omega
    · simp
theorem OKR.pos {l : List Run} (h : OKR l) : ∀ r ∈ l, r.1 < r.2 := fun r hr => (OKP.pos h (r.1, r.2, true) (runPc_mem.2 ⟨rfl, hr⟩)).1
theorem OKR.last_to {l : List Run} {q : Run} (h : OKR (l ++ [q])) : ∀ r ∈ l, r.2 ≤ q.1 := fun r hr => by
  unfold OKR at h
  rw [runPc_append] at h
  exact OKP.last_to h (r.1, r.2, true) (runPc_mem.2 ⟨rfl, hr⟩)
theorem inRuns_mem {l : List Run} {x : Int} : inRuns l x = true ↔ ∃ r ∈ l, r.1 ≤ x ∧ x < r.2 := by
  simp [inRuns, List.any_eq_true]

/-! ## bands -/
abbrev Band := Pc (List Run)
def OKB (B : List Band) : Prop := OKP [] B ∧ ∀ b ∈ B, OKR b.2.2
def inB (B : List Band) (x y : Int) : Bool := inRuns (atP [] B y) x
theorem OKB.at {B : List Band} (h : OKB B) (y : Int) : OKR (atP [] B y) := by
  rcases atP_mem (d := []) (P := B) (y := y) with e | ⟨p, hp, _, _, e⟩
  · rw [e]; exact OKR.nil
  · rw [e]; exact h.2 p hp
theorem OKB.uniq {B C : List Band} (hB : OKB B) (hC : OKB C) (h : ∀ x y, inB B x y = inB C x y) : B = C :=
  OKP.uniq hB.1 hC.1 fun y => (hB.at y).uniq (hC.at y) fun x => h x y
abbrev R4 := Int × Int × Int × Int
def rectsB (B : List Band) : List R4 := B.flatMap fun b => b.2.2.map fun r => (r.1, b.1, r.2, b.2.1)
/-- L is the region of the pixels S -/
def RegionOf (S : Int → Int → Bool) (L : List R4) : Prop := ∃ B, OKB B ∧ (∀ x y, inB B x y = S x y) ∧ L = rectsB B
theorem RegionOf.uniq {S T : Int → Int → Bool} {L M : List R4} (h : RegionOf S L) (k : RegionOf T M) (he : ∀ x y, S x y = T x y) : L = M := by
  obtain ⟨B, h1, h2, rfl⟩ := h
  obtain ⟨C, k1, k2, rfl⟩ := k
  rw [h1.uniq k1 fun x y => (h2 x y).trans ((he x y).trans (k2 x y).symm)]

/-! ## a sorted row of cuts -/
theorem sorted_gap {ys : List Int} (h : ys.Pairwise (· < ·)) {i : Nat} {lo hi v : Int} (h1 : ys[i]? = some lo) (h2 : ys[i + 1]? = some hi) (hv : v ∈ ys) : v ≤ lo ∨ hi ≤ v := by
  obtain ⟨j, hj, rfl⟩ := List.getElem_of_mem hv
  obtain ⟨hi1, e1⟩ := List.getElem?_eq_some_iff.1 h1
  obtain ⟨hi2, e2⟩ := List.getElem?_eq_some_iff.1 h2
  have hp := List.pairwise_iff_getElem.1 h
  rcases Nat.lt_trichotomy j i with k | k | k
  · left; have := hp j i hj hi1 k; omega
  · left; subst k; omega
  · right
    rcases Nat.lt_or_ge (i + 1) j with k2 | k2
    · have := hp (i + 1) j hi2 hj k2; omega
    · have : j = i + 1 := by omega
      subst this; omega
theorem sorted_lt {ys : List Int} (h : ys.Pairwise (· < ·)) {i : Nat} {lo hi : Int} (h1 : ys[i]? = some lo) (h2 : ys[i + 1]? = some hi) : lo < hi := by
  obtain ⟨hi1, e1⟩ := List.getElem?_eq_some_iff.1 h1
  obtain ⟨hi2, e2⟩ := List.getElem?_eq_some_iff.1 h2
  have := List.pairwise_iff_getElem.1 h i (i + 1) hi1 hi2 (by omega)
  omega
/-- T does not turn between two neighbours of ys, and is false outside -/
structure Cuts {α : Type} (ys : List Int) (T : Int → α) (d : α) : Prop where
  sorted : ys.Pairwise (· < ·)
  const : ∀ i lo hi, ys[i]? = some lo → ys[i + 1]? = some hi → ∀ y, lo ≤ y → y < hi → T y = T lo
  below : ∀ y, (∀ v ∈ ys, y < v) → T y = d
  above : ∀ y, (∀ v ∈ ys, v ≤ y) → T y = d
def upto {α : Type} (ys : List Int) (T : Int → α) (d : α) (i : Nat) (y : Int) : α := if y < ys.getD i 0 ∧ i < ys.length then T y else d
theorem Cuts.upto0 {α : Type} {ys : List Int} {T : Int → α} {d : α} (h : Cuts ys T d) (y : Int) : upto ys T d 0 y = d := by
  unfold upto
  split
  · rename_i k
    refine h.below y fun v hv => ?_
    cases ys with
    | nil => cases hv
    | cons z zs =>
      have h1 : y < z := by simpa using k.1
      rcases List.mem_cons.1 hv with rfl | hv
      · exact h1
      · have := (List.pairwise_cons.1 h.sorted).1 v hv; omega
  · rfl
theorem Cuts.end {α : Type} {ys : List Int} {T : Int → α} {d : α} (h : Cuts ys T d) {i : Nat} (hi : ys.length ≤ i + 1) (hi2 : i < ys.length ∨ ys = []) (y : Int) : upto ys T d i y = T y := by
  unfold upto
  split
  · rfl
  · rename_i k
    refine (h.above y fun v hv => ?_).symm
    obtain ⟨j, hj, rfl⟩ := List.getElem_of_mem hv
    have hil : i < ys.length := by rcases hi2 with k | k; exact k; subst k; simp at hj
    have h1 : ¬ y < ys[i] := fun e => k ⟨by simpa [List.getD, hil] using e, hil⟩
    rcases Nat.lt_or_ge j i with k2 | k2
    · have := List.pairwise_iff_getElem.1 h.sorted j i hj hil k2; omega
    · have : j = i := by omega
      subst this; omega
theorem Cuts.step {α : Type} {ys : List Int} {T : Int → α} {d : α} (h : Cuts ys T d) {i : Nat} {lo hi : Int} (h1 : ys[i]? = some lo) (h2 : ys[i + 1]? = some hi) (y : Int) :
    upto ys T d (i + 1) y = if lo ≤ y ∧ y < hi then T lo else upto ys T d i y := by
  have hlt := sorted_lt h.sorted h1 h2
  have e1 : ys.getD i 0 = lo := by simp [List.getD, h1]
  have e2 : ys.getD (i + 1) 0 = hi := by simp [List.getD, h2]
  have l1 := (List.getElem?_eq_some_iff.1 h1).1
  have l2 := (List.getElem?_eq_some_iff.1 h2).1
  unfold upto
  rw [e1, e2]
  by_cases k : lo ≤ y ∧ y < hi
  · rw [if_pos k, if_pos ⟨k.2, l2⟩]
    exact h.const i lo hi h1 h2 y k.1 k.2
  · rw [if_neg k]
    by_cases k2 : y < lo
    · rw [if_pos ⟨by omega, l2⟩, if_pos ⟨k2, l1⟩]
    · rw [if_neg (by omega), if_neg (by omega)]

/-! runs over cuts -/
structure RunsTo (xs : List Int) (T : Int → Bool) (i : Nat) (R : List Run) : Prop where
  ok : OKR R
  le : ∀ v, xs[i]? = some v → ∀ r ∈ R, r.2 ≤ v
  val : ∀ x, inRuns R x = upto xs T false i x
theorem RunsTo.start {xs : List Int} {T : Int → Bool} (h : Cuts xs T false) : RunsTo xs T 0 [] :=
  ⟨OKR.nil, (fun _ _ r hr => by cases hr), fun x => (h.upto0 x).symm⟩
theorem RunsTo.skip {xs : List Int} {T : Int → Bool} {i : Nat} {R : List Run} {lo hi : Int} (h : RunsTo xs T i R) (hc : Cuts xs T false) (h1 : xs[i]? = some lo) (h2 : xs[i + 1]? = some hi) (hT : T lo = false) : RunsTo xs T (i + 1) R := by
  have hlt := sorted_lt hc.sorted h1 h2
  refine ⟨h.ok, fun v hv r hr => ?_, fun x => ?_⟩
  · rw [h2] at hv; injection hv with hv; have := h.le lo h1 r hr; omega
  · rw [hc.step h1 h2, hT, ← h.val]
    split
    · rename_i k
      rw [Bool.eq_false_iff]
      intro e
      obtain ⟨r, hr, k1, k2⟩ := inRuns_mem.1 e
      have := h.le lo h1 r hr
      omega
    · rfl
theorem RunsTo.push {xs : List Int} {T : Int → Bool} {i : Nat} {R : List Run} {lo hi : Int} (h : RunsTo xs T i R) (hc : Cuts xs T false) (h1 : xs[i]? = some lo) (h2 : xs[i + 1]? = some hi) (hT : T lo = true) (hne : ∀ r ∈ R.getLast?, r.2 ≠ lo) : RunsTo xs T (i + 1) (R ++ [(lo, hi)]) := by
  obtain ⟨k1, k2, k3⟩ := OKR.push h.ok (h.le lo h1) (sorted_lt hc.sorted h1 h2) hne
  refine ⟨k1, fun v hv r hr => ?_, fun x => ?_⟩
  · rw [h2] at hv; injection hv with hv; subst hv; exact k2 r hr
  · rw [k3, hc.step h1 h2, hT, ← h.val]
    by_cases k : lo ≤ x ∧ x < hi
    · simp [k]
    · rw [if_neg k]
      have : (decide (lo ≤ x) && decide (x < hi)) = false := by rw [Bool.eq_false_iff]; simpa using k
      rw [this, Bool.or_false]
theorem RunsTo.grow {xs : List Int} {T : Int → Bool} {i : Nat} {R : List Run} {a lo hi : Int} (h : RunsTo xs T i (R ++ [(a, lo)])) (hc : Cuts xs T false) (h1 : xs[i]? = some lo) (h2 : xs[i + 1]? = some hi) (hT : T lo = true) : RunsTo xs T (i + 1) (R ++ [(a, hi)]) := by
  obtain ⟨k1, k2, k3⟩ := OKR.grow h.ok (sorted_lt hc.sorted h1 h2)
  refine ⟨k1, fun v hv r hr => ?_, fun x => ?_⟩
  · rw [h2] at hv; injection hv with hv; subst hv; exact k2 r hr
  · rw [k3, hc.step h1 h2, hT, ← h.val]
    by_cases k : lo ≤ x ∧ x < hi
    · simp [k]
    · rw [if_neg k]
      have : (decide (lo ≤ x) && decide (x < hi)) = false := by rw [Bool.eq_false_iff]; simpa using k
      rw [this, Bool.or_false]
theorem RunsTo.end {xs : List Int} {T : Int → Bool} {i : Nat} {R : List Run} (h : RunsTo xs T i R) (hc : Cuts xs T false) (hi : xs.length ≤ i + 1) (hi2 : i < xs.length ∨ xs = []) : OKR R ∧ ∀ x, inRuns R x = T x :=
  ⟨h.ok, fun x => (h.val x).trans (hc.end hi hi2 x)⟩

/-! bands over cuts: S x y = the pixels -/
structure BandsTo (ys : List Int) (S : Int → Int → Bool) (i : Nat) (B : List Band) : Prop where
  ok : OKB B
  le : ∀ v, ys[i]? = some v → ∀ b ∈ B, b.2.1 ≤ v
  val : ∀ y, inRuns (atP [] B y) = upto ys S (fun _ => false) i y
abbrev CutsB (ys : List Int) (S : Int → Int → Bool) : Prop := Cuts ys S (fun _ => false)
theorem BandsTo.start {ys : List Int} {S : Int → Int → Bool} (h : CutsB ys S) : BandsTo ys S 0 [] :=
  ⟨⟨trivial, (fun b hb => by cases hb)⟩, (fun _ _ b hb => by cases hb), fun y => (h.upto0 y).symm⟩
theorem BandsTo.skip {ys : List Int} {S : Int → Int → Bool} {i : Nat} {B : List Band} {lo hi : Int} (h : BandsTo ys S i B) (hc : CutsB ys S) (h1 : ys[i]? = some lo) (h2 : ys[i + 1]? = some hi) (hT : ∀ x, inRuns [] x = S lo x) : BandsTo ys S (i + 1) B := by
  have hlt := sorted_lt hc.sorted h1 h2
  refine ⟨h.ok, fun v hv b hb => ?_, fun y => ?_⟩
  · rw [h2] at hv; injection hv with hv; have := h.le lo h1 b hb; omega
  · rw [hc.step h1 h2, ← h.val]
    split
    · rename_i k
      rw [atP_above fun b hb => by have := h.le lo h1 b hb; omega]
      exact funext hT
    · rfl
theorem BandsTo.push {ys : List Int} {S : Int → Int → Bool} {i : Nat} {B : List Band} {lo hi : Int} {rs : List Run} (h : BandsTo ys S i B) (hc : CutsB ys S) (h1 : ys[i]? = some lo) (h2 : ys[i + 1]? = some hi) (hT : ∀ x, inRuns rs x = S lo x) (hok : OKR rs) (hrs : rs ≠ []) (hne : ∀ b ∈ B.getLast?, b.2.1 = lo → b.2.2 ≠ rs) : BandsTo ys S (i + 1) (B ++ [(lo, hi, rs)]) := by
  obtain ⟨k1, k2, k3⟩ := OKP.push h.ok.1 (h.le lo h1) (sorted_lt hc.sorted h1 h2) hrs hne
  refine ⟨⟨k1, fun b hb => ?_⟩, fun v hv b hb => ?_, fun y => ?_⟩
  · rcases List.mem_append.1 hb with hb | hb
    · exact h.ok.2 b hb
    · rw [List.mem_singleton.1 hb]; exact hok
  · rw [h2] at hv; injection hv with hv; subst hv; exact k2 b hb
  · rw [k3, hc.step h1 h2, ← h.val]
    split
    · exact funext hT
    · rfl
theorem BandsTo.grow {ys : List Int} {S : Int → Int → Bool} {i : Nat} {B : List Band} {a lo hi : Int} {rs : List Run} (h : BandsTo ys S i (B ++ [(a, lo, rs)])) (hc : CutsB ys S) (h1 : ys[i]? = some lo) (h2 : ys[i + 1]? = some hi) (hT : ∀ x, inRuns rs x = S lo x) : BandsTo ys S (i + 1) (B ++ [(a, hi, rs)]) := by
  obtain ⟨k1, k2, k3⟩ := OKP.grow h.ok.1 (sorted_lt hc.sorted h1 h2)
  refine ⟨⟨k1, fun b hb => ?_⟩, fun v hv b hb => ?_, fun y => ?_⟩
  · rcases List.mem_append.1 hb with hb | hb
    · exact h.ok.2 b (List.mem_append_left _ hb)
    · rw [List.mem_singleton.1 hb]; exact h.ok.2 (a, lo, rs) (by simp)
  · rw [h2] at hv; injection hv with hv; subst hv; exact k2 b hb
  · rw [k3, hc.step h1 h2, ← h.val]
    split
    · exact funext hT
    · rfl
theorem BandsTo.end {ys : List Int} {S : Int → Int → Bool} {i : Nat} {B : List Band} (h : BandsTo ys S i B) (hc : CutsB ys S) (hi : ys.length ≤ i + 1) (hi2 : i < ys.length ∨ ys = []) : OKB B ∧ ∀ x y, inB B x y = S y x :=
  ⟨h.ok, fun x y => congrFun ((h.val y).trans (hc.end hi hi2 y)) x⟩

/-! runs put together out of ranges sorted by their begin -/
structure RowTo (raw : List Run) (k : Nat) (R : List Run) : Prop where
  ok : OKR R
  val : ∀ x, inRuns R x = inRuns (raw.take k) x
  of : ∀ r ∈ R, ∃ q ∈ raw.take k, q.1 = r.1
theorem RowTo.start (raw : List Run) : RowTo raw 0 [] := ⟨OKR.nil, fun _ => rfl, fun _ hr => by cases hr⟩
theorem take_succ_of {α : Type} {l : List α} {k : Nat} {x : α} (h : l[k]? = some x) : l.take (k + 1) = l.take k ++ [x] := by
  rw [List.take_add_one, h]; rfl
theorem RowTo.from_le {raw : List Run} {k : Nat} {R : List Run} (h : RowTo raw k R) (hs : raw.Pairwise fun a b => a.1 ≤ b.1) {q : Run} (hq : raw[k]? = some q) : ∀ r ∈ R, r.1 ≤ q.1 := fun r hr => by
  obtain ⟨p, hp, e⟩ := h.of r hr
  obtain ⟨j, hj, rfl⟩ := List.getElem_of_mem hp
  obtain ⟨hk, e2⟩ := List.getElem?_eq_some_iff.1 hq
  rw [List.length_take] at hj
  rw [List.getElem_take] at e
  have := List.pairwise_iff_getElem.1 hs j k (by omega) hk (by omega)
  rw [e2] at this
  omega
theorem inRuns_snoc (l : List Run) (q : Run) (x : Int) : inRuns (l ++ [q]) x = (inRuns l x || (decide (q.1 ≤ x) && decide (x < q.2))) := by simp [inRuns]
theorem RowTo.push {raw : List Run} {k : Nat} {R : List Run} (h : RowTo raw k R) {f t : Int} (hq : raw[k]? = some (f, t)) (hft : f < t) (hne : ∀ r ∈ R.getLast?, r.2 < f) : RowTo raw (k + 1) (R ++ [(f, t)]) := by
  have hle : ∀ r ∈ R, r.2 ≤ f := by
    rcases List.eq_nil_or_concat R with e | ⟨R', l, e⟩
    · subst e; intro r hr; cases hr
    · rw [List.concat_eq_append] at e
      subst e
      have h1 := hne l (by simp)
      intro r hr
      rcases List.mem_append.1 hr with hr | hr
      · have := h.ok.last_to r hr
        have := h.ok.pos l (by simp)
        omega
      · rw [List.mem_singleton.1 hr]; omega
  obtain ⟨k1, k2, k3⟩ := OKR.push h.ok hle hft fun r hr e => by have := hne r hr; omega
  refine ⟨k1, fun x => ?_, fun r hr => ?_⟩
  · rw [k3, take_succ_of hq, inRuns_snoc, h.val]
  · rw [take_succ_of hq]
    rcases List.mem_append.1 hr with hr | hr
    · obtain ⟨p, hp, e⟩ := h.of r hr
      exact ⟨p, List.mem_append_left _ hp, e⟩
    · rw [List.mem_singleton.1 hr]; exact ⟨(f, t), by simp, rfl⟩
theorem RowTo.merge {raw : List Run} {k : Nat} {R : List Run} {a lo f t : Int} (h : RowTo raw k (R ++ [(a, lo)])) (hs : raw.Pairwise fun a b => a.1 ≤ b.1) (hq : raw[k]? = some (f, t)) (hft : f < t) (hle : f ≤ lo) : RowTo raw (k + 1) (R ++ [(a, max lo t)]) := by
  have haf := h.from_le hs hq (a, lo) (by simp)
  simp only at haf
  have hof : ∀ r ∈ R ++ [(a, max lo t)], ∃ q ∈ raw.take (k + 1), q.1 = r.1 := fun r hr => by
    rw [take_succ_of hq]
    rcases List.mem_append.1 hr with hr | hr
    · obtain ⟨p, hp, e⟩ := h.of r (List.mem_append_left _ hr)
      exact ⟨p, List.mem_append_left _ hp, e⟩
    · obtain ⟨p, hp, e⟩ := h.of (a, lo) (by simp)
      rw [List.mem_singleton.1 hr]
      exact ⟨p, List.mem_append_left _ hp, e⟩
  by_cases hlt : lo < t
  · have e : max lo t = t := by omega
    rw [e] at hof ⊢
    obtain ⟨k1, k2, k3⟩ := OKR.grow h.ok hlt
    refine ⟨k1, fun x => ?_, hof⟩
    rw [k3, take_succ_of hq, inRuns_snoc (raw.take k), ← h.val, inRuns_snoc]
    cases inRuns R x
    · simp only [Bool.false_or]
      rw [Bool.eq_iff_iff]
      simp only [Bool.or_eq_true, Bool.and_eq_true, decide_eq_true_eq]
      omega
    · simp
  · have e : max lo t = lo := by omega
    rw [e] at hof ⊢
    refine ⟨h.ok, fun x => ?_, hof⟩
    rw [take_succ_of hq, inRuns_snoc (raw.take k), ← h.val, inRuns_snoc]
    cases inRuns R x
    · simp only [Bool.false_or]
      rw [Bool.eq_iff_iff]
      simp only [Bool.or_eq_true, Bool.and_eq_true, decide_eq_true_eq]
      omega
    · simp

/-! ## counting -/
def sumI (g : Int → Int) (lo : Int) : Nat → Int
  | 0 => 0
  | n + 1 => sumI g lo n + g (lo + n)
theorem sumI_add (f g : Int → Int) (lo : Int) (n : Nat) : sumI (fun y => f y + g y) lo n = sumI f lo n + sumI g lo n := by
  induction n with
  | zero => rfl
  | succ n ih => simp only [sumI, ih]; omega
theorem sumI_congr {f g : Int → Int} {lo : Int} {n : Nat} (h : ∀ y, f y = g y) : sumI f lo n = sumI g lo n := by
  rw [show f = g from funext h]
theorem sumI_zero (lo : Int) (n : Nat) : sumI (fun _ => 0) lo n = 0 := by
  induction n with
  | zero => rfl
  | succ n ih => simp only [sumI, ih]; rfl
theorem sumI_le {f : Int → Int} {lo c : Int} {n : Nat} (h : ∀ y, f y ≤ c) : sumI f lo n ≤ n * c := by
  induction n with
  | zero => simp [sumI]
  | succ n ih =>
    have := h (lo + n)
    simp only [sumI]
    rw [Int.natCast_add, Int.add_mul]
    omega
theorem sumI_nonneg {f : Int → Int} {lo : Int} {n : Nat} (h : ∀ y, 0 ≤ f y) : 0 ≤ sumI f lo n := by
  induction n with
  | zero => simp [sumI]
  | succ n ih => have := h (lo + n); simp only [sumI]; omega
theorem sumI_ind {a b c lo : Int} (h1 : lo ≤ a) (h2 : a ≤ b) (n : Nat) : sumI (fun y => if a ≤ y ∧ y < b then c else 0) lo n = (min b (lo + n) - min a (lo + n)) * c := by
  induction n with
  | zero =>
    have e : min b (lo + (0 : Nat)) - min a (lo + (0 : Nat)) = 0 := by omega
    rw [e, Int.zero_mul]; rfl
  | succ n ih =>
    rw [sumI, ih]
    by_cases k : a ≤ lo + n ∧ lo + n < b
    · rw [if_pos k]
      have e : min b (lo + ((n + 1 : Nat) : Int)) - min a (lo + ((n + 1 : Nat) : Int)) = (min b (lo + n) - min a (lo + n)) + 1 := by omega
      rw [e, Int.add_mul, Int.one_mul]
    · rw [if_neg k]
      have e : min b (lo + ((n + 1 : Nat) : Int)) - min a (lo + ((n + 1 : Nat) : Int)) = min b (lo + n) - min a (lo + n) := by omega
      rw [e, Int.add_zero]
def sumL : List Int → Int
  | [] => 0
  | x :: l => x + sumL l
theorem sumL_append (l m : List Int) : sumL (l ++ m) = sumL l + sumL m := by
  induction l with
  | nil => simp [sumL]
  | cons x l ih => rw [List.cons_append, sumL, sumL, ih]; omega
theorem OKP.count {V : Type} {d : V} {P : List (Pc V)} (h : OKP d P) (g : V → Int) (hg : g d = 0) {lo : Int} {n : Nat} (hb : ∀ p ∈ P, lo ≤ p.1 ∧ p.2.1 ≤ lo + n) :
    sumL (P.map fun p => (p.2.1 - p.1) * g p.2.2) = sumI (fun y => g (atP d P y)) lo n := by
  induction P with
  | nil =>
    have e : (fun y => g (atP d [] y)) = fun _ => 0 := funext fun y => hg
    rw [e, sumI_zero]; rfl
  | cons p ps ih =>
    have hl := h.low
    have hp := hb p List.mem_cons_self
    have h1 := h.1
    rw [List.map_cons, sumL, ih h.tail fun q hq => hb q (List.mem_cons_of_mem _ hq)]
    have e : sumI (fun y => g (atP d (p :: ps) y)) lo n = sumI (fun y => (if p.1 ≤ y ∧ y < p.2.1 then g p.2.2 else 0) + g (atP d ps y)) lo n := sumI_congr fun y => by
      rw [atP]
      split
      · rename_i k
        rw [atP_below fun q hq => by have := hl q hq; omega, hg, Int.add_zero]
      · rw [Int.zero_add]
    rw [e, sumI_add, sumI_ind hp.1 (by omega)]
    have e2 : min p.2.1 (lo + n) - min p.1 (lo + n) = p.2.1 - p.1 := by omega
    rw [e2]
def widthR (rs : List Run) : Int := sumL (rs.map fun r => r.2 - r.1)
def areaB (B : List Band) : Int := sumL (B.map fun b => (b.2.1 - b.1) * widthR b.2.2)
def one (b : Bool) : Int := if b then 1 else 0
theorem OKR.width {rs : List Run} (h : OKR rs) {lo : Int} {n : Nat} (hb : ∀ r ∈ rs, lo ≤ r.1 ∧ r.2 ≤ lo + n) : widthR rs = sumI (fun x => one (inRuns rs x)) lo n := by
  have := OKP.count (d := false) h one rfl (lo := lo) (n := n) fun p hp => hb _ (runPc_mem.1 hp).2
  rw [sumI_congr (g := fun x => one (atP false (runPc rs) x)) fun x => by rw [inRuns_at], ← this]
  unfold widthR runPc
  rw [List.map_map]
  congr 1
  exact List.map_congr_left fun r _ => by simp [one]
/-- the pixels lie in the window -/
def InWin (S : Int → Int → Bool) : Prop := ∀ x y, S x y = true → -4096 ≤ x ∧ x < 4096 ∧ -4096 ≤ y ∧ y < 4096
def pixCount (S : Int → Int → Bool) : Int := sumI (fun y => sumI (fun x => one (S x y)) (-4096) 8192) (-4096) 8192
theorem OKB.runs_ne {B : List Band} (h : OKB B) {b : Band} (hb : b ∈ B) : b.2.2 ≠ [] := (h.1.pos b hb).2
theorem OKB.runsIn {B : List Band} (h : OKB B) {b : Band} (hb : b ∈ B) {r : Run} (hr : r ∈ b.2.2) {x y : Int} (h1 : r.1 ≤ x) (h2 : x < r.2) (h3 : b.1 ≤ y) (h4 : y < b.2.1) : inB B x y = true := by
  unfold inB
  rw [h.1.at_mem hb h3 h4]
  exact inRuns_mem.2 ⟨r, hr, h1, h2⟩
theorem OKB.win {B : List Band} (h : OKB B) (hw : InWin (inB B)) : ∀ b ∈ B, (-4096 ≤ b.1 ∧ b.2.1 ≤ 4096 ∧ b.1 < b.2.1) ∧ ∀ r ∈ b.2.2, -4096 ≤ r.1 ∧ r.2 ≤ 4096 ∧ r.1 < r.2 := by
  intro b hb
  have hp := (h.1.pos b hb).1
  have key : ∀ r ∈ b.2.2, -4096 ≤ r.1 ∧ r.2 ≤ 4096 ∧ r.1 < r.2 ∧ -4096 ≤ b.1 ∧ b.2.1 ≤ 4096 := fun r hr => by
    have hr2 := (h.2 b hb).pos r hr
    have k1 := hw _ _ (h.runsIn hb hr (x := r.1) (y := b.1) (by omega) (by omega) (by omega) (by omega))
    have k2 := hw _ _ (h.runsIn hb hr (x := r.2 - 1) (y := b.2.1 - 1) (by omega) (by omega) (by omega) (by omega))
    omega
  refine ⟨?_, fun r hr => by have := key r hr; omega⟩
  cases e : b.2.2 with
  | nil => exact absurd e (h.runs_ne hb)
  | cons r rs => have := key r (by rw [e]; simp); omega
theorem OKB.area {B : List Band} (h : OKB B) (hw : InWin (inB B)) : areaB B = pixCount (inB B) := by
  have hb := h.win hw
  have := OKP.count h.1 widthR rfl (lo := -4096) (n := 8192) fun p hp => by have := (hb p hp).1; omega
  unfold areaB pixCount
  rw [this]
  refine sumI_congr fun y => ?_
  rw [(h.at y).width (lo := -4096) (n := 8192) fun r hr => ?_]
  · rfl
  · rcases atP_mem (d := []) (P := B) (y := y) with e | ⟨p, hp, _, _, e⟩
    · rw [e] at hr; cases hr
    · rw [e] at hr
      have := (hb p hp).2 r hr
      omega
theorem one_le (b : Bool) : 0 ≤ one b ∧ one b ≤ 1 := by cases b <;> simp [one]
theorem pixCount_bd (S : Int → Int → Bool) : 0 ≤ pixCount S ∧ pixCount S ≤ 67108864 := by
  unfold pixCount
  refine ⟨sumI_nonneg fun y => sumI_nonneg fun x => (one_le _).1, ?_⟩
  have := sumI_le (f := fun y => sumI (fun x => one (S x y)) (-4096) 8192) (lo := -4096) (c := 8192) (n := 8192) fun y => by
    have := sumI_le (f := fun x => one (S x y)) (lo := -4096) (c := 1) (n := 8192) fun x => (one_le _).2
    omega
  omega
theorem pixCount_congr {S T : Int → Int → Bool} (h : ∀ x y, S x y = T x y) : pixCount S = pixCount T := by
  rw [show S = T from funext fun x => funext fun y => h x y]
theorem pixCount_add (S T U V : Int → Int → Bool) (h : ∀ x y, one (S x y) + one (T x y) = one (U x y) + one (V x y)) : pixCount S + pixCount T = pixCount U + pixCount V := by
  unfold pixCount
  rw [← sumI_add, ← sumI_add]
  refine sumI_congr fun y => ?_
  rw [← sumI_add, ← sumI_add]
  exact sumI_congr fun x => h x y
end Go.Reg
