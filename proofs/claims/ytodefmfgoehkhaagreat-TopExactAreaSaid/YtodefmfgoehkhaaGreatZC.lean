/- Texts put together: TaInt, TaLine, TaSpan, TaSum, TaEv, TaLog, TaEnd. -/

/- Exact areas: sums of midpoints over pieces, the length of what is filled on a scanline. No program stands here. -/
set_option linter.unusedVariables false
namespace Go.TA

/-- f is affine strictly between u and v -/
def Aff (f : Rat → Rat) (u v : Rat) : Prop := ∃ a b : Rat, ∀ y, u < y → y < v → f y = a * y + b
theorem Aff.sub {f : Rat → Rat} {u v u' v' : Rat} (h : Aff f u v) (h1 : u ≤ u') (h2 : v' ≤ v) : Aff f u' v' := by
  obtain ⟨a, b, h⟩ := h
  exact ⟨a, b, fun y hy hy' => h y (by grind) (by grind)⟩
theorem Aff.add {f g : Rat → Rat} {u v : Rat} (h : Aff f u v) (k : Aff g u v) : Aff (fun y => f y + g y) u v := by
  obtain ⟨a, b, h⟩ := h
  obtain ⟨c, d, k⟩ := k
  exact ⟨a + c, b + d, fun y hy hy' => by show f y + g y = _; rw [h y hy hy', k y hy hy']; grind⟩
theorem Aff.congr {f g : Rat → Rat} {u v : Rat} (h : Aff f u v) (e : ∀ y, u < y → y < v → f y = g y) : Aff g u v := by
  obtain ⟨a, b, h⟩ := h
  exact ⟨a, b, fun y hy hy' => by rw [← e y hy hy', h y hy hy']⟩
theorem Aff.const (c u v : Rat) : Aff (fun _ => c) u v := ⟨0, c, fun y _ _ => by grind⟩

/-- the sum of midpoints over pieces on which f is affine -/
inductive IntR (f : Rat → Rat) : Rat → Rat → Rat → Prop
  | nil (a : Rat) : IntR f a a 0
  | cons {a b c S : Rat} (hab : a < b) (hf : Aff f a b) (h : IntR f b c S) : IntR f a c (f ((a + b) / 2) * (b - a) + S)
theorem IntR.le {f : Rat → Rat} {a b S : Rat} (h : IntR f a b S) : a ≤ b := by
  induction h with
  | nil => grind
  | cons hab _ _ ih => grind
theorem IntR.one {f : Rat → Rat} {a b : Rat} (hab : a < b) (hf : Aff f a b) : IntR f a b (f ((a + b) / 2) * (b - a)) := by
  have := IntR.cons hab hf (IntR.nil b)
  rwa [show f ((a + b) / 2) * (b - a) + 0 = f ((a + b) / 2) * (b - a) from by grind] at this
theorem IntR.concat {f : Rat → Rat} {a b c S T : Rat} (h : IntR f a b S) (k : IntR f b c T) : IntR f a c (S + T) := by
  induction h with
  | nil => rwa [show (0 : Rat) + T = T from by grind]
  | @cons a b' c' S' hab hf h' ih =>
    have := IntR.cons hab hf (ih k)
    rwa [show f ((a + b') / 2) * (b' - a) + (S' + T) = f ((a + b') / 2) * (b' - a) + S' + T from by grind] at this
theorem mid_split {f : Rat → Rat} {a b c : Rat} (h1 : a < b) (h2 : b < c) (hf : Aff f a c) : f ((a + c) / 2) * (c - a) = f ((a + b) / 2) * (b - a) + f ((b + c) / 2) * (c - b) := by
  obtain ⟨p, q, h⟩ := hf
  rw [h _ (by grind) (by grind), h _ (by grind) (by grind), h _ (by grind) (by grind)]
  grind
theorem IntR.split {f : Rat → Rat} {a c S : Rat} (h : IntR f a c S) : ∀ b, a ≤ b → b ≤ c → ∃ S1 S2, IntR f a b S1 ∧ IntR f b c S2 ∧ S = S1 + S2 := by
  induction h with
  | nil a =>
    intro b h1 h2
    have : b = a := by grind
    subst this
    exact ⟨0, 0, .nil _, .nil _, by grind⟩
  | @cons a m c S hab hf h ih =>
    intro b h1 h2
    rcases Classical.em (m ≤ b) with hm | hm
    · obtain ⟨S1, S2, k1, k2, e⟩ := ih b hm h2
      exact ⟨_, S2, .cons hab hf k1, k2, by grind⟩
    · have hbm : b < m := by grind
      rcases Classical.em (a = b) with e | hne
      · subst e
        exact ⟨0, _, .nil _, .cons hab hf h, by grind⟩
      · have hab' : a < b := by grind
        refine ⟨_, _, IntR.one hab' (hf.sub (by grind) (by grind)), IntR.cons hbm (hf.sub (by grind) (by grind)) h, ?_⟩
        rw [mid_split hab' hbm hf]
        grind
theorem IntR.aff {f : Rat → Rat} {a c S : Rat} (h : IntR f a c S) (hac : a < c) (hf : Aff f a c) : S = f ((a + c) / 2) * (c - a) := by
  induction h with
  | nil a => exact absurd hac (by grind)
  | @cons a m c S hab hf' h ih =>
    rcases Classical.em (m = c) with e | hne
    · subst e
      cases h with
      | nil => grind
      | cons h1 _ h2 => have := h2.le; exact absurd h1 (by grind)
    · have hmc : m < c := by have := h.le; grind
      rw [ih hmc (hf.sub (by grind) (by grind)), mid_split hab hmc hf]
theorem IntR.zero_len {f : Rat → Rat} {a S : Rat} (h : IntR f a a S) : S = 0 := by
  generalize e : a = b at h
  rw [← e] at h
  cases h with
  | nil => rfl
  | cons h1 _ h2 => have := h2.le; exact absurd h1 (by grind)
theorem IntR.uniq {f : Rat → Rat} {a c S T : Rat} (h : IntR f a c S) (k : IntR f a c T) : S = T := by
  induction h generalizing T with
  | nil a => exact (IntR.zero_len k).symm
  | @cons a m c S hab hf h ih =>
    obtain ⟨T1, T2, k1, k2, e⟩ := k.split m (by grind) h.le
    rw [e, k1.aff hab hf, ih k2]
theorem IntR.congr {f g : Rat → Rat} {a c S : Rat} (h : IntR f a c S) (e : ∀ y, a < y → y < c → f y = g y) : IntR g a c S := by
  induction h with
  | nil a => exact .nil a
  | @cons a m c S hab hf h ih =>
    have hmc := h.le
    rw [e ((a + m) / 2) (by grind) (by grind)]
    exact .cons hab (hf.congr fun y h1 h2 => e y h1 (by grind)) (ih fun y h1 h2 => e y (by grind) h2)
theorem IntR.add {f g : Rat → Rat} {a c S T : Rat} (h : IntR f a c S) (k : IntR g a c T) : IntR (fun y => f y + g y) a c (S + T) := by
  induction h generalizing T with
  | nil a =>
    rw [k.zero_len]
    exact Eq.mp (congrArg _ (by grind)) (IntR.nil (f := fun y => f y + g y) a)
  | @cons a m c S hab hf h ih =>
    obtain ⟨T1, T2, k1, k2, e⟩ := k.split m (by grind) h.le
    have : ∀ {a c T1 : Rat}, IntR g a c T1 → a < c → Aff f a c → IntR (fun y => f y + g y) a c (f ((a + c) / 2) * (c - a) + T1) := by
      intro a c T1 k1
      induction k1 with
      | nil a => intro h; exact absurd h (by grind)
      | @cons a m c S hab hg h ih =>
        intro hac hf
        rcases Classical.em (m = c) with e | hne
        · subst e
          have := h.zero_len
          subst this
          have := IntR.one hab ((hf.add hg))
          refine Eq.mp (congrArg _ ?_) this
          grind
        · have hmc : m < c := by have := h.le; grind
          have := IntR.cons hab ((hf.sub (by grind) (by grind)).add hg) (ih hmc (hf.sub (by grind) (by grind)))
          refine Eq.mp (congrArg _ ?_) this
          rw [mid_split hab hmc hf]
          grind
    have := (this k1 hab hf).concat (ih k2)
    refine Eq.mp (congrArg _ ?_) this
    grind
theorem IntR.mono {f g : Rat → Rat} {a c S T : Rat} (h : IntR f a c S) (k : IntR g a c T) (e : ∀ y, a < y → y < c → f y ≤ g y) : S ≤ T := by
  induction h generalizing T with
  | nil a => rw [k.zero_len]; grind
  | @cons a m c S hab hf h ih =>
    obtain ⟨T1, T2, k1, k2, e'⟩ := k.split m (by grind) h.le
    have hmc := h.le
    have h2 := ih k2 fun y h1 h2 => e y (by grind) h2
    have : ∀ {a c T1 : Rat}, IntR g a c T1 → a < c → Aff f a c → (∀ y, a < y → y < c → f y ≤ g y) → f ((a + c) / 2) * (c - a) ≤ T1 := by
      intro a c T1 k1
      induction k1 with
      | nil a => intro h; exact absurd h (by grind)
      | @cons a m c S hab hg h ih =>
        intro hac hf e
        have hmc := h.le
        have h3 : f ((a + m) / 2) * (m - a) ≤ g ((a + m) / 2) * (m - a) := Rat.mul_le_mul_of_nonneg_right (e _ (by grind) (by grind)) (by grind)
        rcases Classical.em (m = c) with e | hne
        · subst e
          have := h.zero_len
          subst this
          grind
        · have hmc : m < c := by grind
          have := ih hmc (hf.sub (by grind) (by grind)) (fun y h1 h2 => e y (by grind) h2)
          rw [mid_split hab hmc hf]
          grind
    have h3 := this k1 hab hf (fun y h1 h2 => e y h1 (by grind))
    grind
theorem IntR.const (c a b : Rat) (h : a ≤ b) : IntR (fun _ => c) a b (c * (b - a)) := by
  rcases Classical.em (a = b) with e | hne
  · subst e
    exact Eq.mp (congrArg _ (by grind)) (IntR.nil (f := fun _ => c) a)
  · exact IntR.one (by grind) (Aff.const c a b)
end Go.TA

/- Exact areas: the length of what is filled on a scanline. No program stands here. -/
set_option linter.unusedVariables false
namespace Go.TA
/-! ## scanlines -/
abbrev E2 := (Int × Int) × (Int × Int)
/-- where an edge stands at the height y -/
def xAt (e : E2) (y : Rat) : Rat := (e.1.1 : Rat) + (y - (e.1.2 : Rat)) * (1 / ((e.2.2 - e.1.2 : Int) : Rat)) * ((e.2.1 - e.1.1 : Int) : Rat)
def crosses (e : E2) (y : Rat) : Bool := decide ((e.1.2 : Rat) < y ∧ y < (e.2.2 : Rat)) || decide ((e.2.2 : Rat) < y ∧ y < (e.1.2 : Rat))
def upOf (e : E2) : Int := if e.1.2 < e.2.2 then 1 else -1
abbrev Mk := Rat × Int
def markAt (y : Rat) (e : E2) : Mk := (xAt e y, upOf e)
/-- marks in order: by x, then downwards by direction -/
def leM (a b : Mk) : Prop := a.1 < b.1 ∨ a.1 = b.1 ∧ b.2 ≤ a.2
instance (a b : Mk) : Decidable (leM a b) := by unfold leM; infer_instance
theorem leM.antisymm {a b : Mk} (h : leM a b) (k : leM b a) : a = b := by
  obtain ⟨a1, a2⟩ := a
  obtain ⟨b1, b2⟩ := b
  unfold leM at h k
  dsimp only at h k
  have : a1 = b1 := by grind
  have : a2 = b2 := by grind
  grind
theorem leM.trans {a b c : Mk} (h : leM a b) (k : leM b c) : leM a c := by
  unfold leM at *
  grind
theorem leM.total (a b : Mk) : leM a b ∨ leM b a := by
  unfold leM
  grind
/-- M is THE row of marks of the edges at the height y -/
def MarksOf (es : List E2) (y : Rat) (M : List Mk) : Prop := M.Perm ((es.filter (crosses · y)).map (markAt y)) ∧ M.Pairwise leM
theorem MarksOf.uniq {es : List E2} {y : Rat} {M M' : List Mk} (h : MarksOf es y M) (k : MarksOf es y M') : M = M' :=
  List.Perm.eq_of_pairwise (fun a b _ _ h1 h2 => leM.antisymm h1 h2) h.2 k.2 (h.1.trans k.1.symm)
def marksOf (es : List E2) (y : Rat) : List Mk := ((es.filter (crosses · y)).map (markAt y)).mergeSort (fun a b => decide (leM a b))
theorem marksOf_spec (es : List E2) (y : Rat) : MarksOf es y (marksOf es y) := by
  refine ⟨List.mergeSort_perm _ _, ?_⟩
  have := List.pairwise_mergeSort (le := fun a b : Mk => decide (leM a b)) (fun a b c h k => by simp only [decide_eq_true_eq] at *; exact leM.trans h k) (fun a b => by simpa using leM.total a b) ((es.filter (crosses · y)).map (markAt y))
  exact this.imp fun h => of_decide_eq_true h

def clampR (lo hi x : Rat) : Rat := if x < lo then lo else if hi < x then hi else x
/-- the length of what is filled between lo and hi, out of marks in order; n: the turns so far -/
def spanLen (fills : Int → Bool) (lo hi : Rat) : Int → List Mk → Rat
  | n, (x, u) :: (x', u') :: l => (if fills (n + u) then clampR lo hi x' - clampR lo hi x else 0) + spanLen fills lo hi (n + u) ((x', u') :: l)
  | _, _ => 0
def lineLen (fills : Int → Bool) (es : List E2) (lo hi y : Rat) : Rat := spanLen fills lo hi 0 (marksOf es y)

theorem clamp_add {lo mid hi x : Rat} (h1 : lo ≤ mid) (h2 : mid ≤ hi) : clampR lo mid x + clampR mid hi x = clampR lo hi x + mid := by
  unfold clampR
  grind
theorem clamp_mono {lo hi x y : Rat} (h : lo ≤ hi) (hxy : x ≤ y) : clampR lo hi x ≤ clampR lo hi y := by
  unfold clampR
  grind
theorem spanLen_add {fills : Int → Bool} {lo mid hi : Rat} (h1 : lo ≤ mid) (h2 : mid ≤ hi) : ∀ (n : Int) (l : List Mk), spanLen fills lo mid n l + spanLen fills mid hi n l = spanLen fills lo hi n l
  | n, (x, u) :: (x', u') :: l => by
    have ih := spanLen_add (fills := fills) h1 h2 (n + u) ((x', u') :: l)
    have e1 := clamp_add h1 h2 (x := x)
    have e2 := clamp_add h1 h2 (x := x')
    unfold spanLen
    split <;> grind
  | n, [_] => by simp only [spanLen]; grind
  | n, [] => by simp only [spanLen]; grind
theorem lineLen_add {fills : Int → Bool} {es : List E2} {lo mid hi y : Rat} (h1 : lo ≤ mid) (h2 : mid ≤ hi) : lineLen fills es lo mid y + lineLen fills es mid hi y = lineLen fills es lo hi y :=
  spanLen_add h1 h2 _ _
/-- with all marks between lo and hi nothing is cut off -/
theorem spanLen_within {fills : Int → Bool} {lo hi lo' hi' : Rat} : ∀ (n : Int) (l : List Mk), (∀ m ∈ l, lo ≤ m.1 ∧ m.1 ≤ hi) → lo' ≤ lo → hi ≤ hi' → spanLen fills lo hi n l = spanLen fills lo' hi' n l
  | n, (x, u) :: (x', u') :: l, h, h1, h2 => by
    have ih := spanLen_within (fills := fills) (n + u) ((x', u') :: l) (fun m hm => h m (List.mem_cons_of_mem _ hm)) h1 h2
    have e1 : clampR lo hi x = x := by have := h (x, u) List.mem_cons_self; unfold clampR; grind
    have e2 : clampR lo hi x' = x' := by have := h (x', u') (List.mem_cons_of_mem _ List.mem_cons_self); unfold clampR; grind
    have e3 : clampR lo' hi' x = x := by have := h (x, u) List.mem_cons_self; unfold clampR; grind
    have e4 : clampR lo' hi' x' = x' := by have := h (x', u') (List.mem_cons_of_mem _ List.mem_cons_self); unfold clampR; grind
    unfold spanLen
    rw [e1, e2, e3, e4, ih]
  | n, [_], _, _, _ => rfl
  | n, [], _, _, _ => rfl
theorem spanLen_mono {f g : Int → Bool} (hfg : ∀ n, f n = true → g n = true) {lo hi : Rat} (hlh : lo ≤ hi) : ∀ (n : Int) (l : List Mk), l.Pairwise leM → spanLen f lo hi n l ≤ spanLen g lo hi n l
  | n, (x, u) :: (x', u') :: l, h => by
    have ih := spanLen_mono hfg hlh (n + u) ((x', u') :: l) (List.pairwise_cons.1 h).2
    have hx : x ≤ x' := by have := (List.pairwise_cons.1 h).1 (x', u') List.mem_cons_self; unfold leM at this; grind
    have := clamp_mono hlh hx
    have := hfg (n + u)
    unfold spanLen
    split
    · rename_i hf
      rw [if_pos (this hf)]
      grind
    · split <;> grind
  | n, [_], _ => by simp only [spanLen]; grind
  | n, [], _ => by simp only [spanLen]; grind
theorem lineLen_mono {f g : Int → Bool} (hfg : ∀ n, f n = true → g n = true) {es : List E2} {lo hi y : Rat} (hlh : lo ≤ hi) : lineLen f es lo hi y ≤ lineLen g es lo hi y :=
  spanLen_mono hfg hlh _ _ (marksOf_spec es y).2

/-! ## between two heights -/
/-- the edge reaches from u to v at least -/
def spansE (u v : Rat) (e : E2) : Bool := decide ((e.1.2 : Rat) ≤ u ∧ v ≤ (e.2.2 : Rat)) || decide ((e.2.2 : Rat) ≤ u ∧ v ≤ (e.1.2 : Rat))
def Gap (es : List E2) (lo hi u v : Rat) : Prop :=
  (∀ e ∈ es, ¬ (u < (e.1.2 : Rat) ∧ (e.1.2 : Rat) < v) ∧ ¬ (u < (e.2.2 : Rat) ∧ (e.2.2 : Rat) < v)) ∧
  (∀ e ∈ es, ∀ e' ∈ es, spansE u v e = true → spansE u v e' = true → ∀ y, u < y → y < v → xAt e y = xAt e' y → ∀ z, u < z → z < v → xAt e z = xAt e' z) ∧
  (∀ e ∈ es, spansE u v e = true → ∀ c, c = lo ∨ c = hi → ∀ y, u < y → y < v → xAt e y = c → ∀ z, u < z → z < v → xAt e z = c)
theorem xAt_aff (e : E2) : ∃ a b : Rat, ∀ y, xAt e y = a * y + b := by
  refine ⟨(1 / ((e.2.2 - e.1.2 : Int) : Rat)) * ((e.2.1 - e.1.1 : Int) : Rat), (e.1.1 : Rat) - (e.1.2 : Rat) * (1 / ((e.2.2 - e.1.2 : Int) : Rat)) * ((e.2.1 - e.1.1 : Int) : Rat), fun y => ?_⟩
  unfold xAt
  grind
/-- an affine function that turns its sign has a zero between -/
theorem zero_between {a b y z : Rat} (h1 : a * y + b < 0) (h2 : 0 ≤ a * z + b) : ∃ t, (y < t ∧ t ≤ z ∨ z ≤ t ∧ t < y) ∧ a * t + b = 0 := by
  have ha : a ≠ 0 := by intro e; subst e; grind
  refine ⟨-b / a, ?_, by grind⟩
  rcases Classical.em (0 < a) with h | h
  · left
    have e1 : a * (-b / a) = -b := by grind
    constructor
    · rcases Classical.em (y < -b / a) with k | k
      · exact k
      · have := Rat.mul_le_mul_of_nonneg_left (c := a) (show -b / a ≤ y by grind) (by grind)
        grind
    · rcases Classical.em (-b / a ≤ z) with k | k
      · exact k
      · have := Rat.mul_lt_mul_of_pos_left (c := a) (show z < -b / a by grind) h
        grind
  · right
    have h' : 0 < -a := by grind
    have e1 : (-a) * (-b / a) = b := by grind
    constructor
    · rcases Classical.em (z ≤ -b / a) with k | k
      · exact k
      · have := Rat.mul_lt_mul_of_pos_left (c := -a) (show -b / a < z by grind) h'
        grind
    · rcases Classical.em (-b / a < y) with k | k
      · exact k
      · have := Rat.mul_le_mul_of_nonneg_left (c := -a) (show y ≤ -b / a by grind) (by grind)
        grind
section
variable {es : List E2} {lo hi u v : Rat}
theorem Gap.crosses (h : Gap es lo hi u v) {e : E2} (he : e ∈ es) {y : Rat} (h1 : u < y) (h2 : y < v) : crosses e y = spansE u v e := by
  have k := h.1 e he
  unfold Go.TA.crosses spansE
  rw [Bool.eq_iff_iff]
  simp only [Bool.or_eq_true, decide_eq_true_eq]
  grind
theorem Gap.lt (h : Gap es lo hi u v) {e e' : E2} (he : e ∈ es) (he' : e' ∈ es) (hs : spansE u v e = true) (hs' : spansE u v e' = true) {y z : Rat} (hy : u < y) (hy' : y < v) (hz : u < z) (hz' : z < v)
    (hlt : xAt e y < xAt e' y) : xAt e z < xAt e' z := by
  rcases Classical.em (xAt e z < xAt e' z) with k | k
  · exact k
  · exfalso
    obtain ⟨a, b, h1⟩ := xAt_aff e
    obtain ⟨c, d, h2⟩ := xAt_aff e'
    have e1 : (a - c) * y + (b - d) < 0 := by have := h1 y; have := h2 y; grind
    have e2 : 0 ≤ (a - c) * z + (b - d) := by have := h1 z; have := h2 z; grind
    obtain ⟨t, ht, h0⟩ := zero_between e1 e2
    have h3 : xAt e t = xAt e' t := by rw [h1, h2]; grind
    have := h.2.1 e he e' he' hs hs' t (by grind) (by grind) h3 y hy hy'
    grind
theorem Gap.le (h : Gap es lo hi u v) {e e' : E2} (he : e ∈ es) (he' : e' ∈ es) (hs : spansE u v e = true) (hs' : spansE u v e' = true) {y z : Rat} (hy : u < y) (hy' : y < v) (hz : u < z) (hz' : z < v)
    (hle : leM (markAt y e) (markAt y e')) : leM (markAt z e) (markAt z e') := by
  unfold leM markAt at *
  dsimp only at *
  rcases hle with k | ⟨k1, k2⟩
  · exact .inl (h.lt he he' hs hs' hy hy' hz hz' k)
  · exact .inr ⟨h.2.1 e he e' he' hs hs' y hy hy' k1 z hz hz', k2⟩
theorem Gap.clamp (h : Gap es lo hi u v) (hlh : lo ≤ hi) {e : E2} (he : e ∈ es) (hs : spansE u v e = true) : Aff (fun y => clampR lo hi (xAt e y)) u v := by
  rcases Classical.em (u < v) with huv | huv
  · obtain ⟨a, b, h1⟩ := xAt_aff e
    -- the side on which the edge stands does not turn
    have side : ∀ c, c = lo ∨ c = hi → ∀ y z, u < y → y < v → u < z → z < v → xAt e y < c → xAt e z < c := by
      intro c hc y z hy hy' hz hz' hlt
      rcases Classical.em (xAt e z < c) with k | k
      · exact k
      · exfalso
        have e1 : a * y + (b - c) < 0 := by have := h1 y; grind
        have e2 : 0 ≤ a * z + (b - c) := by have := h1 z; grind
        obtain ⟨t, ht, h0⟩ := zero_between e1 e2
        have h3 : xAt e t = c := by rw [h1]; grind
        have := h.2.2 e he hs c hc t (by grind) (by grind) h3 y hy hy'
        grind
    have hm1 : u < (u + v) / 2 := by grind
    have hm2 : (u + v) / 2 < v := by grind
    generalize (u + v) / 2 = m at hm1 hm2
    rcases Classical.em (xAt e m < lo) with k1 | k1
    · refine ⟨0, lo, fun y hy hy' => ?_⟩
      have := side lo (.inl rfl) m y hm1 hm2 hy hy' k1
      unfold clampR
      grind
    · have n1 : ∀ y, u < y → y < v → ¬ xAt e y < lo := fun y hy hy' q => k1 (side lo (.inl rfl) y m hy hy' hm1 hm2 q)
      rcases Classical.em (xAt e m < hi) with k2 | k2
      · refine ⟨a, b, fun y hy hy' => ?_⟩
        have := side hi (.inr rfl) m y hm1 hm2 hy hy' k2
        have := n1 y hy hy'
        have := h1 y
        unfold clampR
        grind
      · refine ⟨0, hi, fun y hy hy' => ?_⟩
        have n2 : ¬ xAt e y < hi := fun q => k2 (side hi (.inr rfl) y m hy hy' hm1 hm2 q)
        have := n1 y hy hy'
        unfold clampR
        grind
  · exact ⟨0, 0, fun y h1 h2 => absurd h1 (by grind)⟩
theorem Aff.ite {f : Rat → Rat} (c : Bool) (h : Aff f u v) : Aff (fun y => if c = true then f y else 0) u v := by
  cases c
  · exact (Aff.const 0 u v).congr fun y _ _ => by simp
  · exact h.congr fun y _ _ => by simp
theorem Aff.sub' {f g : Rat → Rat} (h : Aff f u v) (k : Aff g u v) : Aff (fun y => f y - g y) u v := by
  obtain ⟨a, b, h⟩ := h
  obtain ⟨c, d, k⟩ := k
  exact ⟨a - c, b - d, fun y hy hy' => by show f y - g y = _; rw [h y hy hy', k y hy hy']; grind⟩
theorem spanLen_aff {fills : Int → Bool} : ∀ (n : Int) (l : List E2), (∀ e ∈ l, Aff (fun y => clampR lo hi (xAt e y)) u v) → Aff (fun y => spanLen fills lo hi n (l.map (markAt y))) u v
  | n, e :: e' :: l, h => by
    have ih := spanLen_aff (fills := fills) (n + upOf e) (e' :: l) (fun x hx => h x (List.mem_cons_of_mem _ hx))
    have h1 := (((h e' (List.mem_cons_of_mem _ List.mem_cons_self)).sub' (h e List.mem_cons_self)).ite (fills (n + upOf e))).add ih
    exact h1.congr fun y _ _ => rfl
  | n, [_], _ => (Aff.const 0 u v).congr fun y _ _ => rfl
  | n, [], _ => (Aff.const 0 u v).congr fun y _ _ => rfl
/-- between two heights with nothing between, the length is affine -/
theorem Gap.aff (h : Gap es lo hi u v) (hlh : lo ≤ hi) (fills : Int → Bool) : Aff (lineLen fills es lo hi) u v := by
  rcases Classical.em (u < v) with huv | huv
  · have hm1 : u < (u + v) / 2 := by grind
    have hm2 : (u + v) / 2 < v := by grind
    generalize (u + v) / 2 = m at hm1 hm2
    let S0 := (es.filter (spansE u v)).mergeSort (fun a b => decide (leM (markAt m a) (markAt m b)))
    have hp : S0.Perm (es.filter (spansE u v)) := List.mergeSort_perm _ _
    have hso : S0.Pairwise (fun a b => leM (markAt m a) (markAt m b)) := by
      have := List.pairwise_mergeSort (le := fun a b : E2 => decide (leM (markAt m a) (markAt m b))) (fun a b c h k => by simp only [decide_eq_true_eq] at *; exact leM.trans h k) (fun a b => by simpa using leM.total _ _) (es.filter (spansE u v))
      simpa using this
    have hmem : ∀ e ∈ S0, e ∈ es ∧ spansE u v e = true := fun e he => List.mem_filter.1 (hp.mem_iff.1 he)
    have key : ∀ y, u < y → y < v → marksOf es y = S0.map (markAt y) := by
      intro y hy hy'
      refine (marksOf_spec es y).uniq ⟨?_, ?_⟩
      · refine (hp.map _).trans ?_
        rw [List.filter_congr (fun e he => h.crosses he hy hy')]
      · rw [List.pairwise_map]
        exact hso.imp_of_mem fun {a b} ha hb k => h.le (hmem a ha).1 (hmem b hb).1 (hmem a ha).2 (hmem b hb).2 hm1 hm2 hy hy' k
    refine (spanLen_aff (fills := fills) (lo := lo) (hi := hi) 0 S0 fun e he => h.clamp hlh (hmem e he).1 (hmem e he).2).congr fun y hy hy' => ?_
    show _ = spanLen fills lo hi 0 (marksOf es y)
    rw [key y hy hy']
  · exact ⟨0, 0, fun y h1 h2 => absurd h1 (by grind)⟩
end
end Go.TA

/- Exact areas: spans and their lengths. No program stands here. -/
set_option linter.unusedVariables false
namespace Go.TA
/-! ## spans -/
abbrev Sp := Rat × Rat
def cut1 (lo hi : Rat) (s : Sp) : Rat := clampR lo hi s.2 - clampR lo hi s.1
def lenS (lo hi : Rat) (l : List Sp) : Rat := l.foldr (fun s q => cut1 lo hi s + q) 0
theorem lenS_nil (lo hi : Rat) : lenS lo hi [] = 0 := rfl
theorem lenS_cons (lo hi : Rat) (s : Sp) (l : List Sp) : lenS lo hi (s :: l) = cut1 lo hi s + lenS lo hi l := rfl
theorem lenS_append (lo hi : Rat) (l m : List Sp) : lenS lo hi (l ++ m) = lenS lo hi l + lenS lo hi m := by
  induction l with
  | nil => show _ = 0 + _; grind
  | cons s l ih => rw [List.cons_append, lenS_cons, lenS_cons, ih]; grind
/-- what is cut off, as the program reckons it -/
theorem cut1_eq {lo hi : Rat} (h : lo ≤ hi) {s : Sp} (hs : s.1 ≤ s.2) (a b : Rat) (ha : a = if s.1 > lo then s.1 else lo) (hb : b = if s.2 < hi then s.2 else hi) : (if a < b then b - a else 0) = cut1 lo hi s := by
  subst ha
  subst hb
  unfold cut1 clampR
  grind
/-- spans that are not empty, one behind the other -/
def Chain (l : List Sp) : Prop := l.Pairwise (fun s t => s.2 ≤ t.1) ∧ ∀ s ∈ l, s.1 < s.2
/-- and with gaps between -/
def Apart (l : List Sp) : Prop := l.Pairwise (fun s t => s.2 < t.1) ∧ ∀ s ∈ l, s.1 < s.2
theorem Apart.chain {l : List Sp} (h : Apart l) : Chain l := ⟨h.1.imp fun k => by grind, h.2⟩
def mergeStep (out : List Sp) (s : Sp) : List Sp :=
  match out.getLast? with
  | none => [s]
  | some c => if c.2 < s.1 then out ++ [s] else if c.2 < s.2 then out.dropLast ++ [(c.1, s.2)] else out
def mergeL (l : List Sp) : List Sp := l.foldl mergeStep []
theorem mergeL_snoc (l : List Sp) (s : Sp) : mergeL (l ++ [s]) = mergeStep (mergeL l) s := by simp [mergeL]
theorem mergeStep_nil (s : Sp) : mergeStep [] s = [s] := rfl
theorem mergeStep_snoc (o : List Sp) (c s : Sp) : mergeStep (o ++ [c]) s = if c.2 < s.1 then o ++ [c] ++ [s] else if c.2 < s.2 then o ++ [(c.1, s.2)] else o ++ [c] := by
  unfold mergeStep
  simp
theorem Apart.snoc {l : List Sp} {s : Sp} (h : Apart l) (h1 : ∀ t ∈ l, t.2 < s.1) (h2 : s.1 < s.2) : Apart (l ++ [s]) := by
  refine ⟨List.pairwise_append.2 ⟨h.1, List.pairwise_singleton _ _, fun a ha b hb => ?_⟩, fun t ht => ?_⟩
  · rw [List.mem_singleton] at hb; subst hb; exact h1 a ha
  · rcases List.mem_append.1 ht with k | k
    · exact h.2 t k
    · rw [List.mem_singleton] at k; subst k; exact h2
theorem Apart.front {l : List Sp} {s : Sp} (h : Apart (l ++ [s])) : Apart l ∧ (∀ t ∈ l, t.2 < s.1) ∧ s.1 < s.2 :=
  ⟨⟨(List.pairwise_append.1 h.1).1, fun t ht => h.2 t (List.mem_append_left _ ht)⟩, fun t ht => (List.pairwise_append.1 h.1).2.2 t ht s (List.mem_singleton.2 rfl), h.2 s (List.mem_append_right _ (List.mem_singleton.2 rfl))⟩
theorem mergeStep_apart (lo hi : Rat) {out : List Sp} {s : Sp} (h : Apart out) (hs : s.1 < s.2) (hb : ∀ c ∈ out, c.2 ≤ s.1) :
    Apart (mergeStep out s) ∧ lenS lo hi (mergeStep out s) = lenS lo hi out + cut1 lo hi s ∧ (∀ c ∈ mergeStep out s, c.2 ≤ s.2) := by
  rcases List.eq_nil_or_concat out with rfl | ⟨o, c, rfl⟩
  · rw [mergeStep_nil]
    exact ⟨⟨List.pairwise_singleton _ _, fun t ht => by rw [List.mem_singleton] at ht; subst ht; exact hs⟩, by rw [lenS_cons, lenS_nil]; grind, fun c hc => by rw [List.mem_singleton] at hc; subst hc; grind⟩
  · rw [List.concat_eq_append] at *
    have hc := hb c (List.mem_append_right _ (List.mem_singleton.2 rfl))
    obtain ⟨h1, h2, h3⟩ := h.front
    rw [mergeStep_snoc]
    split
    · rename_i hlt
      refine ⟨h.snoc (fun t ht => ?_) hs, by rw [lenS_append _ _ (o ++ [c]), lenS_cons, lenS_nil]; grind, fun t ht => ?_⟩
      · rcases List.mem_append.1 ht with k | k
        · have := h2 t k; grind
        · rw [List.mem_singleton] at k; subst k; exact hlt
      · rcases List.mem_append.1 ht with k | k
        · have := hb t k; grind
        · rw [List.mem_singleton] at k; subst k; grind
    · rw [if_pos (by grind)]
      refine ⟨h1.snoc h2 (by grind), ?_, fun t ht => ?_⟩
      · rw [lenS_append, lenS_append, lenS_cons, lenS_cons, lenS_nil]
        unfold cut1
        have : c.2 = s.1 := by grind
        rw [this]
        grind
      · rcases List.mem_append.1 ht with k | k
        · have := hb t (List.mem_append_left _ k); grind
        · rw [List.mem_singleton] at k; subst k; grind
theorem foldl_chain (lo hi : Rat) : ∀ (l out : List Sp), Apart out → Chain l → (∀ c ∈ out, ∀ s ∈ l, c.2 ≤ s.1) → Apart (l.foldl mergeStep out) ∧ lenS lo hi (l.foldl mergeStep out) = lenS lo hi out + lenS lo hi l
  | [], out, h, _, _ => ⟨h, by rw [lenS_nil]; show lenS lo hi out = _; grind⟩
  | s :: l, out, h, hl, hb => by
    obtain ⟨h1, h2⟩ := List.pairwise_cons.1 hl.1
    have hs := hl.2 s List.mem_cons_self
    obtain ⟨k1, k2, k3⟩ := mergeStep_apart lo hi h hs fun c hc => hb c hc s List.mem_cons_self
    obtain ⟨i1, i2⟩ := foldl_chain lo hi l (mergeStep out s) k1 ⟨h2, fun t ht => hl.2 t (List.mem_cons_of_mem _ ht)⟩ fun c hc t ht => by
      have := k3 c hc
      have := h1 t ht
      grind
    exact ⟨i1, by rw [List.foldl_cons, i2, k2, lenS_cons]; grind⟩
theorem mergeL_chain (lo hi : Rat) {l : List Sp} (h : Chain l) : Apart (mergeL l) ∧ lenS lo hi (mergeL l) = lenS lo hi l := by
  obtain ⟨h1, h2⟩ := foldl_chain lo hi l [] ⟨List.Pairwise.nil, fun s hs => by cases hs⟩ h (fun c hc => by cases hc)
  exact ⟨h1, by show lenS lo hi (l.foldl mergeStep []) = _; rw [h2, lenS_nil]; grind⟩
theorem mergeL_apart {l : List Sp} (h : Apart l) : mergeL l = l := by
  have : ∀ (l out : List Sp), Apart (out ++ l) → l.foldl mergeStep out = out ++ l := by
    intro l
    induction l with
    | nil => intro out _; simp
    | cons s l ih =>
      intro out h
      have e : mergeStep out s = out ++ [s] := by
        rcases List.eq_nil_or_concat out with rfl | ⟨o, c, rfl⟩
        · rfl
        · rw [List.concat_eq_append] at *
          rw [mergeStep_snoc, if_pos]
          exact (List.pairwise_append.1 h.1).2.2 c (by simp) s List.mem_cons_self
      rw [List.foldl_cons, e, ih _ (by simpa using h)]
      simp
  exact this l [] (by simpa using h)
/-- the spans of marks in order -/
def spansOf (fills : Int → Bool) : Int → List Mk → List Sp
  | n, (x, u) :: (x', u') :: l => if fills (n + u) then (x, x') :: spansOf fills (n + u) ((x', u') :: l) else spansOf fills (n + u) ((x', u') :: l)
  | _, _ => []
def nonempty (s : Sp) : Bool := decide (s.1 < s.2)
theorem spansOf_spec {fills : Int → Bool} (lo hi : Rat) : ∀ (n : Int) (l : List Mk), l.Pairwise leM →
    lenS lo hi ((spansOf fills n l).filter nonempty) = spanLen fills lo hi n l ∧ (spansOf fills n l).Pairwise (fun s t => s.2 ≤ t.1) ∧ (∀ s ∈ spansOf fills n l, ∀ m, l.head? = some m → m.1 ≤ s.1 ∧ s.1 ≤ s.2)
  | n, (x, u) :: (x', u') :: l, h => by
    obtain ⟨i1, i2, i3⟩ := spansOf_spec (fills := fills) lo hi (n + u) ((x', u') :: l) (List.pairwise_cons.1 h).2
    have hx : x ≤ x' := by have := (List.pairwise_cons.1 h).1 (x', u') List.mem_cons_self; unfold leM at this; grind
    unfold spansOf spanLen
    split
    · refine ⟨?_, List.pairwise_cons.2 ⟨fun t ht => (i3 t ht _ rfl).1, i2⟩, fun s hs m hm => ?_⟩
      · rw [List.filter_cons]
        split
        · rw [lenS_cons, i1]; rfl
        · rename_i hne
          have : x = x' := by simp [nonempty] at hne; grind
          rw [i1, this]
          grind
      · simp only [List.head?_cons, Option.some.injEq] at hm
        subst hm
        rcases List.mem_cons.1 hs with rfl | k
        · exact ⟨by grind, hx⟩
        · have := i3 s k _ rfl
          dsimp only at this ⊢
          exact ⟨by grind, this.2⟩
    · refine ⟨by rw [i1]; grind, i2, fun s hs m hm => ?_⟩
      simp only [List.head?_cons, Option.some.injEq] at hm
      subst hm
      have := i3 s hs _ rfl
      dsimp only at this ⊢
      exact ⟨by grind, this.2⟩
  | n, [_], _ => ⟨rfl, List.Pairwise.nil, fun s hs => by cases hs⟩
  | n, [], _ => ⟨rfl, List.Pairwise.nil, fun s hs => by cases hs⟩
theorem spansOf_chain {fills : Int → Bool} {n : Int} {l : List Mk} (h : l.Pairwise leM) : Chain ((spansOf fills n l).filter nonempty) := by
  refine ⟨(spansOf_spec 0 0 n l h).2.1.filter _, fun s hs => ?_⟩
  have := (List.mem_filter.1 hs).2
  simpa [nonempty] using this
/-- what Length reckons of what Spans hands back -/
theorem length_spans (fills : Int → Bool) (lo hi : Rat) {l : List Mk} (h : l.Pairwise leM) : lenS lo hi (mergeL ((spansOf fills 0 l).filter nonempty)) = spanLen fills lo hi 0 l := by
  rw [(mergeL_chain lo hi (spansOf_chain h)).2, (spansOf_spec lo hi 0 l h).1]
end Go.TA

/- Exact areas: areas of boxes, put together. No program stands here. -/
set_option linter.unusedVariables false
namespace Go.TA
/-! ## areas of boxes -/
/-- S is THE area of what is filled in the box, in square units -/
def AreaOf (fills : Int → Bool) (es : List E2) (x0 y0 x1 y1 : Int) (S : Rat) : Prop :=
  if x1 ≤ x0 ∨ y1 ≤ y0 then S = 0 else IntR (lineLen fills es x0 x1) y0 y1 S
theorem AreaOf.uniq {fills : Int → Bool} {es : List E2} {x0 y0 x1 y1 : Int} {S T : Rat} (h : AreaOf fills es x0 y0 x1 y1 S) (k : AreaOf fills es x0 y0 x1 y1 T) : S = T := by
  unfold AreaOf at h k
  split at h
  · rename_i hc; rw [if_pos hc] at k; rw [h, k]
  · rename_i hc; rw [if_neg hc] at k; exact h.uniq k
theorem AreaOf.mono {f g : Int → Bool} (hfg : ∀ n, f n = true → g n = true) {es : List E2} {x0 y0 x1 y1 : Int} {S T : Rat} (h : AreaOf f es x0 y0 x1 y1 S) (k : AreaOf g es x0 y0 x1 y1 T) : S ≤ T := by
  unfold AreaOf at h k
  split at h
  · rename_i hc; rw [if_pos hc] at k; rw [h, k]; exact Rat.le_refl
  · rename_i hc; rw [if_neg hc] at k
    exact h.mono k fun y _ _ => lineLen_mono hfg (by have : x0 ≤ x1 := by omega
                                                     exact Rat.intCast_le_intCast.2 this)
theorem spanLen_nil (fills : Int → Bool) (lo : Rat) : ∀ (n : Int) (l : List Mk), spanLen fills lo lo n l = 0
  | n, (x, u) :: (x', u') :: l => by
    have ih := spanLen_nil fills lo (n + u) ((x', u') :: l)
    have e : ∀ x, clampR lo lo x = lo := fun x => by unfold clampR; grind
    unfold spanLen
    rw [ih, e, e]
    split <;> grind
  | n, [_] => rfl
  | n, [] => rfl
theorem lineLen_nil (fills : Int → Bool) (es : List E2) (lo y : Rat) : lineLen fills es lo lo y = 0 := spanLen_nil fills lo _ _
/-- a row of pixels: the areas so far, of the pixels from x0 to x1 -/
def RowInt (fills : Int → Bool) (es : List E2) (x0 x1 y : Int) (R : Rat) : Prop := IntR (lineLen fills es ((256 * x0 : Int) : Rat) ((256 * x1 : Int) : Rat)) ((256 * y : Int) : Rat) ((256 * (y + 1) : Int) : Rat) R
theorem RowInt.start (fills : Int → Bool) (es : List E2) (x0 y : Int) : RowInt fills es x0 x0 y 0 := by
  have hle : ((256 * y : Int) : Rat) ≤ ((256 * (y + 1) : Int) : Rat) := Rat.intCast_le_intCast.2 (by omega)
  have := IntR.const 0 _ _ hle
  have := this.congr (g := lineLen fills es ((256 * x0 : Int) : Rat) ((256 * x0 : Int) : Rat)) fun y _ _ => (lineLen_nil _ _ _ _).symm
  exact Eq.mp (congrArg _ (by grind)) this
theorem RowInt.step {fills : Int → Bool} {es : List E2} {x0 x1 y : Int} {R S : Rat} (h : RowInt fills es x0 x1 y R) (h01 : x0 ≤ x1) (hS : AreaOf fills es (256 * x1) (256 * y) (256 * (x1 + 1)) (256 * (y + 1)) S) : RowInt fills es x0 (x1 + 1) y (R + S) := by
  unfold AreaOf at hS
  rw [if_neg (by omega)] at hS
  exact (IntR.add h hS).congr fun y _ _ => lineLen_add (Rat.intCast_le_intCast.2 (by omega)) (Rat.intCast_le_intCast.2 (by omega))
/-- rows of pixels -/
def RowsInt (fills : Int → Bool) (es : List E2) (x0 x1 y0 y1 : Int) (R : Rat) : Prop := IntR (lineLen fills es ((256 * x0 : Int) : Rat) ((256 * x1 : Int) : Rat)) ((256 * y0 : Int) : Rat) ((256 * y1 : Int) : Rat) R
theorem RowsInt.start (fills : Int → Bool) (es : List E2) (x0 x1 y : Int) : RowsInt fills es x0 x1 y y 0 := IntR.nil _
theorem RowsInt.step {fills : Int → Bool} {es : List E2} {x0 x1 y0 y1 : Int} {R S : Rat} (h : RowsInt fills es x0 x1 y0 y1 R) (k : RowInt fills es x0 x1 y1 S) : RowsInt fills es x0 x1 y0 (y1 + 1) (R + S) := IntR.concat h k

/-- the edges lie within a box -/
def InBox (es : List E2) (x0 y0 x1 y1 : Int) : Prop := ∀ e ∈ es, (x0 ≤ e.1.1 ∧ e.1.1 ≤ x1 ∧ y0 ≤ e.1.2 ∧ e.1.2 ≤ y1) ∧ (x0 ≤ e.2.1 ∧ e.2.1 ≤ x1 ∧ y0 ≤ e.2.2 ∧ e.2.2 ≤ y1)
theorem part_between {t d : Rat} (h0 : 0 ≤ t) (h1 : t ≤ 1) : (0 ≤ d → 0 ≤ t * d ∧ t * d ≤ d) ∧ (d ≤ 0 → d ≤ t * d ∧ t * d ≤ 0) := by
  constructor
  · intro hd
    have e1 := Rat.mul_nonneg h0 hd
    have e2 := Rat.mul_le_mul_of_nonneg_right h1 hd
    grind
  · intro hd
    have hd' : 0 ≤ -d := by grind
    have e1 := Rat.mul_nonneg h0 hd'
    have e2 := Rat.mul_le_mul_of_nonneg_right h1 hd'
    grind
theorem frac_between {n d : Rat} (h : 0 < n ∧ n < d ∨ d < n ∧ n < 0) : 0 ≤ n * (1 / d) ∧ n * (1 / d) ≤ 1 := by
  have hd : d ≠ 0 := by grind
  have e : n * (1 / d) * d = n := by grind
  rcases h with ⟨h1, h2⟩ | ⟨h1, h2⟩
  · have hd' : 0 < d := by grind
    constructor
    · rcases Classical.em (0 ≤ n * (1 / d)) with k | k
      · exact k
      · have := Rat.mul_lt_mul_of_pos_right (c := d) (show n * (1 / d) < 0 by grind) hd'
        grind
    · rcases Classical.em (n * (1 / d) ≤ 1) with k | k
      · exact k
      · have := Rat.mul_lt_mul_of_pos_right (c := d) (show 1 < n * (1 / d) by grind) hd'
        grind
  · have hd' : 0 < -d := by grind
    have e' : n * (1 / d) * -d = -n := by grind
    constructor
    · rcases Classical.em (0 ≤ n * (1 / d)) with k | k
      · exact k
      · have := Rat.mul_lt_mul_of_pos_right (c := -d) (show n * (1 / d) < 0 by grind) hd'
        grind
    · rcases Classical.em (n * (1 / d) ≤ 1) with k | k
      · exact k
      · have := Rat.mul_lt_mul_of_pos_right (c := -d) (show 1 < n * (1 / d) by grind) hd'
        grind
theorem xAt_between {e : E2} {y : Rat} (h : crosses e y = true) {x0 x1 : Int} (h1 : x0 ≤ e.1.1 ∧ e.1.1 ≤ x1) (h2 : x0 ≤ e.2.1 ∧ e.2.1 ≤ x1) : (x0 : Rat) ≤ xAt e y ∧ xAt e y ≤ (x1 : Rat) := by
  obtain ⟨⟨a, b⟩, c, d⟩ := e
  dsimp only at h1 h2
  have hf : 0 ≤ (y - (b : Rat)) * (1 / ((d - b : Int) : Rat)) ∧ (y - (b : Rat)) * (1 / ((d - b : Int) : Rat)) ≤ 1 := by
    refine frac_between ?_
    simp only [crosses, Bool.or_eq_true, decide_eq_true_eq] at h
    rw [Rat.intCast_sub]
    grind
  have hp := part_between hf.1 hf.2 (d := ((c - a : Int) : Rat))
  have e1 : (x0 : Rat) ≤ (a : Rat) := Rat.intCast_le_intCast.2 h1.1
  have e2 : (a : Rat) ≤ (x1 : Rat) := Rat.intCast_le_intCast.2 h1.2
  have e3 : (x0 : Rat) ≤ (c : Rat) := Rat.intCast_le_intCast.2 h2.1
  have e4 : (c : Rat) ≤ (x1 : Rat) := Rat.intCast_le_intCast.2 h2.2
  unfold xAt
  dsimp only
  generalize (y - (b : Rat)) * (1 / ((d - b : Int) : Rat)) = t at *
  rw [Rat.intCast_sub] at *
  rcases Classical.em ((0 : Rat) ≤ (c : Rat) - (a : Rat)) with k | k
  · have := hp.1 k; grind
  · have := hp.2 (by grind); grind
theorem marks_in {es : List E2} {x0 y0 x1 y1 : Int} (h : InBox es x0 y0 x1 y1) (y : Rat) : ∀ m ∈ marksOf es y, (x0 : Rat) ≤ m.1 ∧ m.1 ≤ (x1 : Rat) := by
  intro m hm
  have := (marksOf_spec es y).1.mem_iff.1 hm
  obtain ⟨e, he, rfl⟩ := List.mem_map.1 this
  obtain ⟨he1, he2⟩ := List.mem_filter.1 he
  have := h e he1
  exact xAt_between he2 ⟨this.1.1, this.1.2.1⟩ ⟨this.2.1, this.2.2.1⟩
theorem lineLen_out {fills : Int → Bool} {es : List E2} {x0 y0 x1 y1 : Int} (h : InBox es x0 y0 x1 y1) {lo hi y : Rat} (hy : y < (y0 : Rat) ∨ (y1 : Rat) < y) : lineLen fills es lo hi y = 0 := by
  have : marksOf es y = [] := by
    have hp := (marksOf_spec es y).1
    have : es.filter (crosses · y) = [] := by
      rw [List.filter_eq_nil_iff]
      intro e he
      have := h e he
      have e1 : (y0 : Rat) ≤ (e.1.2 : Rat) := Rat.intCast_le_intCast.2 this.1.2.2.1
      have e2 : (y0 : Rat) ≤ (e.2.2 : Rat) := Rat.intCast_le_intCast.2 this.2.2.2.1
      have e3 : (e.1.2 : Rat) ≤ (y1 : Rat) := Rat.intCast_le_intCast.2 this.1.2.2.2
      have e4 : (e.2.2 : Rat) ≤ (y1 : Rat) := Rat.intCast_le_intCast.2 this.2.2.2.2
      simp only [crosses, Bool.or_eq_true, decide_eq_true_eq]
      grind
    rw [this] at hp
    exact List.Perm.eq_nil hp
  unfold lineLen
  rw [this]
  rfl
/-- the rows of pixels around a box hold what the box holds -/
theorem area_all {fills : Int → Bool} {es : List E2} {x0 y0 x1 y1 : Int} (h : InBox es x0 y0 x1 y1) {X0 Y0 X1 Y1 : Int} (hx0 : 256 * X0 ≤ x0) (hx1 : x1 ≤ 256 * X1) (hy0 : 256 * Y0 ≤ y0) (hy1 : y1 ≤ 256 * Y1) (hx : x0 ≤ x1) (hy : y0 ≤ y1)
    {S T : Rat} (hS : AreaOf fills es x0 y0 x1 y1 S) (hT : RowsInt fills es X0 X1 Y0 Y1 T) : S = T := by
  have hxr0 : ((256 * X0 : Int) : Rat) ≤ (x0 : Rat) := Rat.intCast_le_intCast.2 hx0
  have hxr1 : (x1 : Rat) ≤ ((256 * X1 : Int) : Rat) := Rat.intCast_le_intCast.2 hx1
  have hyr0 : ((256 * Y0 : Int) : Rat) ≤ (y0 : Rat) := Rat.intCast_le_intCast.2 hy0
  have hyr1 : (y1 : Rat) ≤ ((256 * Y1 : Int) : Rat) := Rat.intCast_le_intCast.2 hy1
  have hyr : (y0 : Rat) ≤ (y1 : Rat) := Rat.intCast_le_intCast.2 hy
  have within : ∀ y, lineLen fills es x0 x1 y = lineLen fills es ((256 * X0 : Int) : Rat) ((256 * X1 : Int) : Rat) y := fun y => spanLen_within _ _ (marks_in h y) hxr0 hxr1
  have mid : IntR (lineLen fills es ((256 * X0 : Int) : Rat) ((256 * X1 : Int) : Rat)) y0 y1 S := by
    unfold AreaOf at hS
    split at hS
    · rename_i hc
      subst hS
      have zero : ∀ y, (y0 : Rat) < y → y < (y1 : Rat) → lineLen fills es ((256 * X0 : Int) : Rat) ((256 * X1 : Int) : Rat) y = 0 := by
        intro y k1 k2
        rcases hc with hc | hc
        · have : x0 = x1 := by omega
          rw [← within y, this]
          exact lineLen_nil _ _ _ _
        · have : y0 = y1 := by omega
          rw [this] at k1
          grind
      have := (IntR.const 0 (y0 : Rat) (y1 : Rat) hyr).congr fun y k1 k2 => (zero y k1 k2).symm
      exact Eq.mp (congrArg _ (by grind)) this
    · exact hS.congr fun y _ _ => within y
  have low := (IntR.const 0 _ _ hyr0).congr (g := lineLen fills es ((256 * X0 : Int) : Rat) ((256 * X1 : Int) : Rat)) fun y _ k => (lineLen_out h (.inl k)).symm
  have high := (IntR.const 0 _ _ hyr1).congr (g := lineLen fills es ((256 * X0 : Int) : Rat) ((256 * X1 : Int) : Rat)) fun y k _ => (lineLen_out h (.inr k)).symm
  have := ((low.concat mid).concat high).uniq hT
  grind
end Go.TA

/- Exact areas: the heights at which something happens. No program stands here. -/
set_option linter.unusedVariables false
namespace Go.TA
/-! ## heights at which something happens -/
def crossI (p q : Int × Int) : Int := p.1 * q.2 - p.2 * q.1
def subI (p q : Int × Int) : Int × Int := (p.1 - q.1, p.2 - q.2)
def ratI (n d : Int) : Rat := (n : Rat) / (d : Rat)
def alongR (a b : Int) (t : Rat) : Rat := (a : Rat) + t * ((b - a : Int) : Rat)
def yAtR (e : E2) (x : Int) : Rat := alongR e.1.2 e.2.2 (ratI (x - e.1.1) (e.2.1 - e.1.1))
def segN (e f : E2) : Int := crossI (subI e.2 e.1) (subI f.2 f.1)
def segT (e f : E2) : Rat := ratI (crossI (subI f.1 e.1) (subI f.2 f.1)) (segN e f)
def segS (e f : E2) : Rat := ratI (crossI (subI f.1 e.1) (subI e.2 e.1)) (segN e f)
structure Events (es : List E2) (x0 y0 x1 y1 : Int) (E : List Rat) : Prop where
  up : E.Pairwise (· < ·)
  first : E.head? = some (y0 : Rat)
  last : E.getLast? = some (y1 : Rat)
  ends : ∀ e ∈ es, ∀ q, q = e.1.2 ∨ q = e.2.2 → (y0 : Rat) < (q : Rat) → (q : Rat) < (y1 : Rat) → (q : Rat) ∈ E
  sides : ∀ e ∈ es, ∀ x, x = x0 ∨ x = x1 → e.1.1 ≠ e.2.1 → min e.1.1 e.2.1 ≤ x → x ≤ max e.1.1 e.2.1 → (y0 : Rat) < yAtR e x → yAtR e x < (y1 : Rat) → yAtR e x ∈ E
  meet : ∀ (i j : Nat) (e f : E2), i < j → es[i]? = some e → es[j]? = some f → segN e f ≠ 0 → 0 ≤ segT e f → segT e f ≤ 1 → 0 ≤ segS e f → segS e f ≤ 1 → (y0 : Rat) < alongR e.1.2 e.2.2 (segT e f) → alongR e.1.2 e.2.2 (segT e f) < (y1 : Rat) → alongR e.1.2 e.2.2 (segT e f) ∈ E
theorem Pair_gap {E : List Rat} (h : E.Pairwise (· < ·)) {i : Nat} {u v y : Rat} (hu : E[i]? = some u) (hv : E[i + 1]? = some v) (h1 : u < y) (h2 : y < v) : y ∉ E := by
  intro hy
  obtain ⟨k, hk⟩ := List.mem_iff_getElem?.1 hy
  have hp := List.pairwise_iff_getElem.1 h
  obtain ⟨a1, a2⟩ := List.getElem?_eq_some_iff.1 hu
  obtain ⟨b1, b2⟩ := List.getElem?_eq_some_iff.1 hv
  obtain ⟨c1, c2⟩ := List.getElem?_eq_some_iff.1 hk
  rcases Nat.lt_or_ge i k with k1 | k1
  · rcases Nat.lt_or_ge k (i + 1) with k2 | k2
    · omega
    · rcases Nat.eq_or_lt_of_le k2 with k3 | k3
      · subst k3; rw [b2] at c2; grind
      · have := hp (i + 1) k b1 c1 k3; grind
  · rcases Nat.eq_or_lt_of_le k1 with k3 | k3
    · subst k3; rw [a2] at c2; grind
    · have := hp k i c1 a1 k3; grind
theorem Pair_ge {E : List Rat} (h : E.Pairwise (· < ·)) {a : Rat} (ha : E.head? = some a) {i : Nat} {u : Rat} (hu : E[i]? = some u) : a ≤ u := by
  cases E with
  | nil => cases ha
  | cons x l =>
    simp only [List.head?_cons, Option.some.injEq] at ha
    subst ha
    cases i with
    | zero => simp only [List.getElem?_cons_zero, Option.some.injEq] at hu; grind
    | succ i =>
      have := (List.pairwise_cons.1 h).1 u (List.mem_of_getElem? (by simpa using hu))
      grind
theorem Pair_le {E : List Rat} (h : E.Pairwise (· < ·)) {a : Rat} (ha : E.getLast? = some a) {i : Nat} {u : Rat} (hu : E[i]? = some u) : u ≤ a := by
  rw [List.getLast?_eq_getElem?] at ha
  obtain ⟨a1, a2⟩ := List.getElem?_eq_some_iff.1 hu
  obtain ⟨c1, c2⟩ := List.getElem?_eq_some_iff.1 ha
  rcases Nat.lt_or_ge i (E.length - 1) with k | k
  · have := List.pairwise_iff_getElem.1 h i _ a1 c1 k; grind
  · have : i = E.length - 1 := by omega
    subst this; grind
theorem xAt_eq (e : E2) (y : Rat) (h : e.2.2 ≠ e.1.2) : xAt e y = (e.1.1 : Rat) + (y - (e.1.2 : Rat)) / ((e.2.2 : Rat) - (e.1.2 : Rat)) * ((e.2.1 : Rat) - (e.1.1 : Rat)) := by
  unfold xAt
  rw [Rat.intCast_sub, Rat.intCast_sub]
  have : ((e.2.2 : Rat) - (e.1.2 : Rat)) ≠ 0 := by
    intro k
    have : (e.2.2 : Rat) = (e.1.2 : Rat) := by grind
    exact h (Rat.intCast_inj.1 this)
  grind
theorem spans_crosses {u v : Rat} {e : E2} (h : spansE u v e = true) {y : Rat} (h1 : u < y) (h2 : y < v) : crosses e y = true := by
  unfold spansE at h
  unfold crosses
  simp only [Bool.or_eq_true, decide_eq_true_eq] at *
  grind
theorem crosses_ne {e : E2} {y : Rat} (h : crosses e y = true) : e.2.2 ≠ e.1.2 := by
  intro k
  unfold crosses at h
  rw [k] at h
  simp only [Bool.or_eq_true, decide_eq_true_eq] at h
  grind
/-- the way of a crossing edge up to the height y -/
theorem crosses_frac {e : E2} {y : Rat} (h : crosses e y = true) : 0 ≤ (y - (e.1.2 : Rat)) / ((e.2.2 : Rat) - (e.1.2 : Rat)) ∧ (y - (e.1.2 : Rat)) / ((e.2.2 : Rat) - (e.1.2 : Rat)) ≤ 1 := by
  have := frac_between (n := y - (e.1.2 : Rat)) (d := (e.2.2 : Rat) - (e.1.2 : Rat)) (by
    simp only [crosses, Bool.or_eq_true, decide_eq_true_eq] at h
    grind)
  rwa [show (y - (e.1.2 : Rat)) * (1 / ((e.2.2 : Rat) - (e.1.2 : Rat))) = (y - (e.1.2 : Rat)) / ((e.2.2 : Rat) - (e.1.2 : Rat)) from by grind] at this
theorem castne {n : Int} (h : n ≠ 0) : (n : Rat) ≠ 0 := fun k => h (Rat.intCast_inj.1 (by rw [k]; rfl))
theorem seg_meet {e f : E2} {y : Rat} (he : crosses e y = true) (hf : crosses f y = true) (hx : xAt e y = xAt f y) (hn : segN e f ≠ 0) :
    segT e f = (y - (e.1.2 : Rat)) / ((e.2.2 : Rat) - (e.1.2 : Rat)) ∧ segS e f = (y - (f.1.2 : Rat)) / ((f.2.2 : Rat) - (f.1.2 : Rat)) := by
  have n1 := crosses_ne he
  have n2 := crosses_ne hf
  rw [xAt_eq e y n1, xAt_eq f y n2] at hx
  have m1 : ((e.2.2 : Rat) - (e.1.2 : Rat)) ≠ 0 := fun k => n1 (Rat.intCast_inj.1 (by grind))
  have m2 : ((f.2.2 : Rat) - (f.1.2 : Rat)) ≠ 0 := fun k => n2 (Rat.intCast_inj.1 (by grind))
  have m3 := castne hn
  unfold segT segS ratI
  have e3 : (segN e f : Rat) = ((e.2.1 : Rat) - e.1.1) * ((f.2.2 : Rat) - f.1.2) - ((e.2.2 : Rat) - e.1.2) * ((f.2.1 : Rat) - f.1.1) := by
    simp only [segN, crossI, subI, Rat.intCast_sub, Rat.intCast_mul]
  have e4 : (crossI (subI f.1 e.1) (subI f.2 f.1) : Rat) = ((f.1.1 : Rat) - e.1.1) * ((f.2.2 : Rat) - f.1.2) - ((f.1.2 : Rat) - e.1.2) * ((f.2.1 : Rat) - f.1.1) := by
    simp only [crossI, subI, Rat.intCast_sub, Rat.intCast_mul]
  have e5 : (crossI (subI f.1 e.1) (subI e.2 e.1) : Rat) = ((f.1.1 : Rat) - e.1.1) * ((e.2.2 : Rat) - e.1.2) - ((f.1.2 : Rat) - e.1.2) * ((e.2.1 : Rat) - e.1.1) := by
    simp only [crossI, subI, Rat.intCast_sub, Rat.intCast_mul]
  rw [e4, e5]
  rw [e3] at m3 ⊢
  clear e3 e4 e5 hn he hf n1 n2
  generalize (e.1.1 : Rat) = ax at *
  generalize (e.1.2 : Rat) = ay at *
  generalize (e.2.1 : Rat) = bx at *
  generalize (e.2.2 : Rat) = by_ at *
  generalize (f.1.1 : Rat) = cx at *
  generalize (f.1.2 : Rat) = cy at *
  generalize (f.2.1 : Rat) = dx at *
  generalize (f.2.2 : Rat) = dy at *
  have t1 : (y - ay) / (by_ - ay) * (by_ - ay) = y - ay := by grind
  have s1 : (y - cy) / (dy - cy) * (dy - cy) = y - cy := by grind
  generalize (y - ay) / (by_ - ay) = t at *
  generalize (y - cy) / (dy - cy) = s at *
  constructor <;> grind
theorem seg_par {e f : E2} {y z : Rat} (he : crosses e y = true) (hf : crosses f y = true) (hx : xAt e y = xAt f y) (hn : segN e f = 0) : xAt e z = xAt f z := by
  have n1 := crosses_ne he
  have n2 := crosses_ne hf
  rw [xAt_eq e y n1, xAt_eq f y n2] at hx
  rw [xAt_eq e z n1, xAt_eq f z n2]
  have m1 : ((e.2.2 : Rat) - (e.1.2 : Rat)) ≠ 0 := fun k => n1 (Rat.intCast_inj.1 (by grind))
  have m2 : ((f.2.2 : Rat) - (f.1.2 : Rat)) ≠ 0 := fun k => n2 (Rat.intCast_inj.1 (by grind))
  have e3 : ((e.2.1 : Rat) - e.1.1) * ((f.2.2 : Rat) - f.1.2) - ((e.2.2 : Rat) - e.1.2) * ((f.2.1 : Rat) - f.1.1) = 0 := by
    have : (segN e f : Rat) = ((e.2.1 : Rat) - e.1.1) * ((f.2.2 : Rat) - f.1.2) - ((e.2.2 : Rat) - e.1.2) * ((f.2.1 : Rat) - f.1.1) := by
      simp only [segN, crossI, subI, Rat.intCast_sub, Rat.intCast_mul]
    rw [← this, hn]
    rfl
  clear hn he hf n1 n2
  generalize (e.1.1 : Rat) = ax at *
  generalize (e.1.2 : Rat) = ay at *
  generalize (e.2.1 : Rat) = bx at *
  generalize (e.2.2 : Rat) = by_ at *
  generalize (f.1.1 : Rat) = cx at *
  generalize (f.1.2 : Rat) = cy at *
  generalize (f.2.1 : Rat) = dx at *
  generalize (f.2.2 : Rat) = dy at *
  grind
theorem Events.gap {es : List E2} {x0 y0 x1 y1 : Int} {E : List Rat} (h : Events es x0 y0 x1 y1 E) {i : Nat} {u v : Rat} (hu : E[i]? = some u) (hv : E[i + 1]? = some v) : Gap es (x0 : Rat) (x1 : Rat) u v := by
  have hlo := Pair_ge h.up h.first hu
  have hhi := Pair_le h.up h.last hv
  have out : ∀ y, u < y → y < v → y ∉ E := fun y h1 h2 => Pair_gap h.up hu hv h1 h2
  refine ⟨fun e he => ⟨fun k => ?_, fun k => ?_⟩, fun e he f hf hs hs' y hy hy' hx z _ _ => ?_, fun e he hs c hc y hy hy' hx z _ _ => ?_⟩
  · exact out _ k.1 k.2 (h.ends e he _ (.inl rfl) (by grind) (by grind))
  · exact out _ k.1 k.2 (h.ends e he _ (.inr rfl) (by grind) (by grind))
  · have c1 := spans_crosses hs hy hy'
    have c2 := spans_crosses hs' hy hy'
    have f1 := crosses_frac c1
    have f2 := crosses_frac c2
    have key : ∀ (e f : E2), e ∈ es → f ∈ es → crosses e y = true → crosses f y = true → xAt e y = xAt f y → segN e f ≠ 0 → ∀ (i j : Nat), i < j → es[i]? = some e → es[j]? = some f → False := by
      intro e f he hf c1 c2 hx hn i j hij hi hj
      have f1 := crosses_frac c1
      have f2 := crosses_frac c2
      obtain ⟨t1, s1⟩ := seg_meet c1 c2 hx hn
      have hy2 : alongR e.1.2 e.2.2 (segT e f) = y := by
        have n1 := crosses_ne c1
        have m1 : ((e.2.2 : Rat) - (e.1.2 : Rat)) ≠ 0 := fun k => n1 (Rat.intCast_inj.1 (by grind))
        unfold alongR
        rw [t1, Rat.intCast_sub]
        grind
      refine out y hy hy' ?_
      have := h.meet i j e f hij hi hj hn (by rw [t1]; exact f1.1) (by rw [t1]; exact f1.2) (by rw [s1]; exact f2.1) (by rw [s1]; exact f2.2)
      rw [hy2] at this
      exact this (by grind) (by grind)
    rcases Classical.em (segN e f = 0) with hn | hn
    · exact seg_par c1 c2 hx hn
    · obtain ⟨i, hi⟩ := List.mem_iff_getElem?.1 he
      obtain ⟨j, hj⟩ := List.mem_iff_getElem?.1 hf
      rcases Nat.lt_trichotomy i j with k | k | k
      · exact (key e f he hf c1 c2 hx hn i j k hi hj).elim
      · subst k
        rw [hi] at hj
        injection hj with hj
        rw [hj]
      · refine (key f e hf he c2 c1 hx.symm ?_ j i k hj hi).elim
        intro q
        apply hn
        have : segN e f = - segN f e := by simp only [segN, crossI, subI]; grind
        rw [this, q]
        rfl
  · have c1 := spans_crosses hs hy hy'
    obtain ⟨x, hxc, rfl⟩ : ∃ x : Int, (x = x0 ∨ x = x1) ∧ c = (x : Rat) := by
      rcases hc with rfl | rfl
      · exact ⟨x0, .inl rfl, rfl⟩
      · exact ⟨x1, .inr rfl, rfl⟩
    have n1 := crosses_ne c1
    have m1 : ((e.2.2 : Rat) - (e.1.2 : Rat)) ≠ 0 := fun k => n1 (Rat.intCast_inj.1 (by grind))
    rcases Classical.em (e.1.1 = e.2.1) with hv | hv
    · rw [xAt_eq e _ n1] at hx ⊢
      rw [hv] at hx ⊢
      grind
    · exfalso
      have hb := xAt_between c1 (x0 := min e.1.1 e.2.1) (x1 := max e.1.1 e.2.1) (by omega) (by omega)
      rw [hx] at hb
      have b1 : min e.1.1 e.2.1 ≤ x := Rat.intCast_le_intCast.1 hb.1
      have b2 : x ≤ max e.1.1 e.2.1 := Rat.intCast_le_intCast.1 hb.2
      have hy2 : yAtR e x = y := by
        have m2 : ((e.2.1 : Rat) - (e.1.1 : Rat)) ≠ 0 := fun k => hv (Rat.intCast_inj.1 (by grind))
        unfold yAtR alongR ratI
        rw [Rat.intCast_sub, Rat.intCast_sub, Rat.intCast_sub, ← hx, xAt_eq e _ n1]
        grind
      refine out y hy hy' ?_
      have := h.sides e he x hxc hv b1 b2
      rw [hy2] at this
      exact this (by grind) (by grind)
/-- up to one of the heights -/
theorem Events.step {es : List E2} {x0 y0 x1 y1 : Int} {E : List Rat} (h : Events es x0 y0 x1 y1 E) (hx : x0 ≤ x1) (fills : Int → Bool) {i : Nat} {u v S : Rat} (hu : E[i]? = some u) (hv : E[i + 1]? = some v) (hS : IntR (lineLen fills es x0 x1) y0 u S) :
    IntR (lineLen fills es x0 x1) y0 v (S + lineLen fills es x0 x1 ((u + v) / 2) * (v - u)) := by
  have hlt : u < v := by
    obtain ⟨a1, a2⟩ := List.getElem?_eq_some_iff.1 hu
    obtain ⟨b1, b2⟩ := List.getElem?_eq_some_iff.1 hv
    have := List.pairwise_iff_getElem.1 h.up i (i + 1) a1 b1 (by omega)
    grind
  exact hS.concat (IntR.one hlt ((h.gap hu hv).aff (Rat.intCast_le_intCast.2 hx) fills))
end Go.TA

/- Exact areas: the heights found so far. No program stands here. -/
set_option linter.unusedVariables false
namespace Go.TA
/-- a height is taken, if it lies within -/
def Adds (lo hi : Rat) (qs : List Rat) (y : Rat) (qs' : List Rat) : Prop := (lo < y ∧ y < hi ∧ qs' = qs ++ [y]) ∨ (¬ (lo < y ∧ y < hi) ∧ qs' = qs)
theorem Adds.sub {lo hi y : Rat} {qs qs' : List Rat} (h : Adds lo hi qs y qs') : ∀ q ∈ qs, q ∈ qs' := fun q hq => by
  rcases h with ⟨_, _, rfl⟩ | ⟨_, rfl⟩
  · exact List.mem_append_left _ hq
  · exact hq
theorem Adds.mem {lo hi y : Rat} {qs qs' : List Rat} (h : Adds lo hi qs y qs') (h1 : lo < y) (h2 : y < hi) : y ∈ qs' := by
  rcases h with ⟨_, _, rfl⟩ | ⟨h, rfl⟩
  · exact List.mem_append_right _ (List.mem_singleton.2 rfl)
  · exact absurd ⟨h1, h2⟩ h
theorem Adds.len {lo hi y : Rat} {qs qs' : List Rat} (h : Adds lo hi qs y qs') : qs'.length ≤ qs.length + 1 := by
  rcases h with ⟨_, _, rfl⟩ | ⟨h, rfl⟩
  · simp
  · omega
/-- all heights lie within; both ends are there -/
structure Within (y0 y1 : Int) (qs : List Rat) : Prop where
  lo : (y0 : Rat) ∈ qs
  hi : (y1 : Rat) ∈ qs
  bd : ∀ q ∈ qs, (y0 : Rat) ≤ q ∧ q ≤ (y1 : Rat)
theorem Within.adds {y0 y1 : Int} {qs qs' : List Rat} {y : Rat} (h : Within y0 y1 qs) (k : Adds (y0 : Rat) (y1 : Rat) qs y qs') : Within y0 y1 qs' := by
  refine ⟨k.sub _ h.lo, k.sub _ h.hi, fun q hq => ?_⟩
  rcases k with ⟨h1, h2, rfl⟩ | ⟨_, rfl⟩
  · rcases List.mem_append.1 hq with hq | hq
    · exact h.bd q hq
    · rw [List.mem_singleton] at hq; subst hq; constructor <;> grind
  · exact h.bd q hq
/-- the vertex has its height -/
def EndOk (y0 y1 : Int) (p : Int × Int) (qs : List Rat) : Prop := (y0 : Rat) < (p.2 : Rat) → (p.2 : Rat) < (y1 : Rat) → (p.2 : Rat) ∈ qs
def SideOk (y0 y1 : Int) (e : E2) (x : Int) (qs : List Rat) : Prop := e.1.1 ≠ e.2.1 → min e.1.1 e.2.1 ≤ x → x ≤ max e.1.1 e.2.1 → (y0 : Rat) < yAtR e x → yAtR e x < (y1 : Rat) → yAtR e x ∈ qs
def MeetOk (y0 y1 : Int) (e f : E2) (qs : List Rat) : Prop := segN e f ≠ 0 → 0 ≤ segT e f → segT e f ≤ 1 → 0 ≤ segS e f → segS e f ≤ 1 → (y0 : Rat) < alongR e.1.2 e.2.2 (segT e f) → alongR e.1.2 e.2.2 (segT e f) < (y1 : Rat) → alongR e.1.2 e.2.2 (segT e f) ∈ qs
section
variable {y0 y1 : Int} {qs qs' : List Rat}
theorem EndOk.sub {p : Int × Int} (h : EndOk y0 y1 p qs) (k : ∀ q ∈ qs, q ∈ qs') : EndOk y0 y1 p qs' := fun a b => k _ (h a b)
theorem SideOk.sub {e : E2} {x : Int} (h : SideOk y0 y1 e x qs) (k : ∀ q ∈ qs, q ∈ qs') : SideOk y0 y1 e x qs' := fun a b c d f => k _ (h a b c d f)
theorem MeetOk.sub {e f : E2} (h : MeetOk y0 y1 e f qs) (k : ∀ q ∈ qs, q ∈ qs') : MeetOk y0 y1 e f qs' := fun a b c d f g i => k _ (h a b c d f g i)
end
/-- what is known behind the edges so far -/
structure EvLog (L : List (List (Int × Int))) (x0 y0 x1 y1 : Int) (pre : List E2) (qs : List Rat) : Prop where
  wi : Within y0 y1 qs
  ends : ∀ r ∈ L, ∀ p ∈ r, EndOk y0 y1 p qs
  sides : ∀ e ∈ pre, ∀ x, x = x0 ∨ x = x1 → SideOk y0 y1 e x qs
  meet : ∀ (i j : Nat) (e f : E2), i < j → pre[i]? = some e → pre[j]? = some f → MeetOk y0 y1 e f qs
theorem EvLog.adds {L : List (List (Int × Int))} {x0 y0 x1 y1 : Int} {pre : List E2} {qs qs' : List Rat} {y : Rat} (h : EvLog L x0 y0 x1 y1 pre qs) (k : Adds (y0 : Rat) (y1 : Rat) qs y qs') : EvLog L x0 y0 x1 y1 pre qs' :=
  ⟨h.wi.adds k, fun r hr p hp => (h.ends r hr p hp).sub k.sub, fun e he x hx => (h.sides e he x hx).sub k.sub, fun i j e f hij hi hj => (h.meet i j e f hij hi hj).sub k.sub⟩
theorem EvLog.snoc {L : List (List (Int × Int))} {x0 y0 x1 y1 : Int} {pre : List E2} {qs : List Rat} {x : E2} (h : EvLog L x0 y0 x1 y1 pre qs) (h1 : SideOk y0 y1 x x0 qs) (h2 : SideOk y0 y1 x x1 qs)
    (h3 : ∀ (i : Nat) (e : E2), pre[i]? = some e → MeetOk y0 y1 e x qs) : EvLog L x0 y0 x1 y1 (pre ++ [x]) qs := by
  refine ⟨h.wi, h.ends, fun e he z hz => ?_, fun i j e f hij hi hj => ?_⟩
  · rcases List.mem_append.1 he with he | he
    · exact h.sides e he z hz
    · rw [List.mem_singleton] at he
      subst he
      rcases hz with rfl | rfl
      · exact h1
      · exact h2
  · have hjl := (List.getElem?_eq_some_iff.1 hj).1
    rw [List.length_append, List.length_singleton] at hjl
    have hil : i < pre.length := by omega
    rw [List.getElem?_append_left hil] at hi
    rcases Nat.lt_or_ge j pre.length with hjp | hjp
    · rw [List.getElem?_append_left hjp] at hj
      exact h.meet i j e f hij hi hj
    · have : j = pre.length := by omega
      subst this
      rw [List.getElem?_append_right (Nat.le_refl _), Nat.sub_self] at hj
      simp only [List.getElem?_cons_zero, Option.some.injEq] at hj
      subst hj
      exact h3 i e hi
/-- the heights in order are the events -/
theorem EvLog.events {L : List (List (Int × Int))} {x0 y0 x1 y1 : Int} {es : List E2} {qs E : List Rat} (h : EvLog L x0 y0 x1 y1 es qs) (hes : ∀ e ∈ es, (∃ r ∈ L, e.1 ∈ r) ∧ (∃ r ∈ L, e.2 ∈ r)) (hup : E.Pairwise (· < ·)) (hm : ∀ q, q ∈ E ↔ q ∈ qs) : Events es x0 y0 x1 y1 E := by
  refine ⟨hup, ?_, ?_, fun e he q hq h1 h2 => ?_, fun e he x hx a b c d f => (hm _).2 (h.sides e he x hx a b c d f), fun i j e f hij hi hj a b c d g k l => (hm _).2 (h.meet i j e f hij hi hj a b c d g k l)⟩
  · cases E with
    | nil => exact absurd ((hm _).2 h.wi.lo) (by simp)
    | cons z t =>
      rw [List.head?_cons]
      have h1 := (h.wi.bd z ((hm z).1 List.mem_cons_self)).1
      rcases List.mem_cons.1 ((hm _).2 h.wi.lo) with e | e
      · rw [e]
      · have := (List.pairwise_cons.1 hup).1 _ e
        grind
  · rcases List.eq_nil_or_concat E with rfl | ⟨t, z, rfl⟩
    · exact absurd ((hm _).2 h.wi.hi) (by simp)
    · rw [List.concat_eq_append] at *
      rw [List.getLast?_concat]
      have h1 := (h.wi.bd z ((hm z).1 (by simp))).2
      rcases List.mem_append.1 ((hm _).2 h.wi.hi) with e | e
      · have := (List.pairwise_append.1 hup).2.2 _ e z (List.mem_singleton.2 rfl)
        grind
      · rw [List.mem_singleton] at e
        rw [e]
  · obtain ⟨⟨r, hr, hp⟩, s, hs, hq'⟩ := hes e he
    refine (hm _).2 ?_
    rcases hq with rfl | rfl
    · exact h.ends r hr e.1 hp h1 h2
    · exact h.ends s hs e.2 hq' h1 h2
end Go.TA

/- Exact areas: spans step by step, the coverage of a pixel, the areas of pixels put together. No program stands here. -/
set_option linter.unusedVariables false
namespace Go.TA
/-! ## spans, mark by mark -/
def upSum (l : List Mk) : Int := (l.map (·.2)).sum
theorem upSum_nil : upSum [] = 0 := rfl
theorem upSum_cons (m : Mk) (l : List Mk) : upSum (m :: l) = m.2 + upSum l := rfl
theorem upSum_append (l l' : List Mk) : upSum (l ++ l') = upSum l + upSum l' := by simp [upSum]
theorem upSum_step {l : List Mk} {j : Nat} {m : Mk} (h : l[j]? = some m) : upSum (l.take (j + 1)) = upSum (l.take j) + m.2 := by
  rw [List.take_add_one, h, upSum_append]
  simp [upSum]
theorem upSum_bd : ∀ {l : List Mk}, (∀ m ∈ l, m.2 = 1 ∨ m.2 = -1) → -(l.length : Int) ≤ upSum l ∧ upSum l ≤ (l.length : Int)
  | [], _ => by simp [upSum]
  | m :: l, h => by
    have ih := upSum_bd (l := l) fun m hm => h m (List.mem_cons_of_mem _ hm)
    have hm := h m List.mem_cons_self
    rw [upSum_cons, List.length_cons]
    omega
theorem marks_up {es : List E2} {y : Rat} {M : List Mk} (h : MarksOf es y M) : ∀ m ∈ M, m.2 = 1 ∨ m.2 = -1 := by
  intro m hm
  obtain ⟨e, _, rfl⟩ := List.mem_map.1 (h.1.mem_iff.1 hm)
  show upOf e = 1 ∨ upOf e = -1
  unfold upOf
  split
  · exact .inl rfl
  · exact .inr rfl
theorem spansOf_snoc (fills : Int → Bool) : ∀ (n : Int) (l : List Mk) (m m' : Mk), spansOf fills n (l ++ [m, m']) = spansOf fills n (l ++ [m]) ++ (if fills (n + upSum (l ++ [m])) then [(m.1, m'.1)] else [])
  | n, [], (x, u), (x', u') => by
    show (if fills (n + u) then (x, x') :: [] else []) = [] ++ _
    rw [List.nil_append, List.nil_append, upSum_cons, upSum_nil, Int.add_zero]
  | n, [(x0, u0)], (x, u), (x', u') => by
    have ih := spansOf_snoc fills (n + u0) [] (x, u) (x', u')
    rw [List.nil_append, List.nil_append] at ih
    show (if fills (n + u0) then (x0, x) :: spansOf fills (n + u0) [(x, u), (x', u')] else spansOf fills (n + u0) [(x, u), (x', u')]) = (if fills (n + u0) then (x0, x) :: spansOf fills (n + u0) [(x, u)] else spansOf fills (n + u0) [(x, u)]) ++ _
    rw [ih]
    rw [show upSum ([(x0, u0)] ++ [(x, u)]) = u0 + upSum [(x, u)] from rfl, ← Int.add_assoc]
    split <;> simp
  | n, (x0, u0) :: (x1, u1) :: l, m, m' => by
    have ih := spansOf_snoc fills (n + u0) ((x1, u1) :: l) m m'
    show (if fills (n + u0) then (x0, x1) :: spansOf fills (n + u0) ((x1, u1) :: l ++ [m, m']) else spansOf fills (n + u0) ((x1, u1) :: l ++ [m, m'])) = (if fills (n + u0) then (x0, x1) :: spansOf fills (n + u0) ((x1, u1) :: l ++ [m]) else spansOf fills (n + u0) ((x1, u1) :: l ++ [m])) ++ _
    rw [ih]
    rw [show upSum ((x0, u0) :: (x1, u1) :: l ++ [m]) = u0 + upSum ((x1, u1) :: l ++ [m]) from rfl, ← Int.add_assoc]
    split <;> simp
theorem spansOf_step {fills : Int → Bool} {ms : List Mk} {j : Nat} {m m' : Mk} (h : ms[j]? = some m) (h' : ms[j + 1]? = some m') :
    spansOf fills 0 (ms.take (j + 1 + 1)) = spansOf fills 0 (ms.take (j + 1)) ++ (if fills (upSum (ms.take (j + 1))) then [(m.1, m'.1)] else []) := by
  have e1 : ms.take (j + 1) = ms.take j ++ [m] := by rw [List.take_add_one, h]; rfl
  have e2 : ms.take (j + 1 + 1) = ms.take j ++ [m, m'] := by rw [List.take_add_one, h', e1]; simp
  rw [e1, e2, spansOf_snoc, Int.zero_add]
theorem spansOf_one (fills : Int → Bool) (ms : List Mk) : spansOf fills 0 (ms.take (0 + 1)) = [] := by
  cases ms with
  | nil => rfl
  | cons m l => rfl
/-- the length that the program reckons on a scanline -/
theorem lineLen_of {fills : Int → Bool} {es : List E2} {y lo hi : Rat} {M : List Mk} (h : MarksOf es y M) : lenS lo hi (mergeL ((spansOf fills 0 M).filter nonempty)) = lineLen fills es lo hi y := by
  rw [length_spans fills lo hi h.2, h.uniq (marksOf_spec es y)]
  rfl
theorem lenS_step {lo hi : Rat} {l : List Sp} {j : Nat} {s : Sp} (h : l[j]? = some s) : lenS lo hi (l.take (j + 1)) = lenS lo hi (l.take j) + cut1 lo hi s := by
  rw [List.take_add_one, h, lenS_append]
  show _ + lenS lo hi [s] = _
  rw [lenS_cons, lenS_nil]
  grind
theorem apart_filter {l : List Sp} (h : Apart l) : l.filter nonempty = l := by
  rw [List.filter_eq_self]
  intro s hs
  simp [nonempty, h.2 s hs]
/-- the spans of a scanline lie apart -/
theorem spans_apart {fills : Int → Bool} {es : List E2} {y : Rat} {M : List Mk} (h : MarksOf es y M) : Apart (mergeL ((spansOf fills 0 M).filter nonempty)) := (mergeL_chain 0 0 (spansOf_chain h.2)).1

/-! ## the coverage of a pixel -/
def covQ (q : Rat) : Int := if q ≤ 0 then 0 else if 1 ≤ q then 255 else (q * 255 + 1 / 2).floor
theorem cov_floor {q : Rat} (h0 : 0 < q) (h1 : q < 1) : 0 ≤ (q * 255 + 1 / 2).floor ∧ (q * 255 + 1 / 2).floor ≤ 255 := by
  constructor
  · rw [Rat.le_floor_iff]
    show ((0 : Int) : Rat) ≤ _
    have : ((0 : Int) : Rat) = 0 := rfl
    rw [this]
    grind
  · have h2 : (q * 255 + 1 / 2).floor < 256 := by
      rw [Rat.floor_lt_iff]
      have : ((256 : Int) : Rat) = 256 := rfl
      rw [this]
      grind
    omega
theorem covQ_bd (q : Rat) : 0 ≤ covQ q ∧ covQ q ≤ 255 := by
  unfold covQ
  split
  · omega
  · split
    · omega
    · exact cov_floor (by grind) (by grind)
/-- an area is one number, whether it is known or not -/
theorem area_fix (fills : Int → Bool) (es : List E2) (x0 y0 x1 y1 : Int) : ∃ V : Rat, ∀ S, AreaOf fills es x0 y0 x1 y1 S → S = V := by
  rcases Classical.em (∃ S, AreaOf fills es x0 y0 x1 y1 S) with ⟨V, h⟩ | h
  · exact ⟨V, fun S k => k.uniq h⟩
  · exact ⟨0, fun S k => absurd ⟨S, k⟩ h⟩

/-! ## pixels put together -/
/-- what lies in the rows above and in the pixels to the left, in pixels -/
def SumTo (fills : Int → Bool) (es : List E2) (X0 X1 Y0 x y : Int) (q : Rat) : Prop := ∃ T R, RowsInt fills es X0 X1 Y0 y T ∧ RowInt fills es X0 x y R ∧ q = (T + R) / 65536
def SumRow (fills : Int → Bool) (es : List E2) (X0 X1 Y0 y : Int) (q : Rat) : Prop := ∃ T, RowsInt fills es X0 X1 Y0 y T ∧ q = T / 65536
theorem SumRow.start (fills : Int → Bool) (es : List E2) (X0 X1 Y0 : Int) : SumRow fills es X0 X1 Y0 Y0 0 := ⟨0, RowsInt.start _ _ _ _ _, by grind⟩
theorem SumRow.begun {fills : Int → Bool} {es : List E2} {X0 X1 Y0 y : Int} {q : Rat} (h : SumRow fills es X0 X1 Y0 y q) : SumTo fills es X0 X1 Y0 X0 y q := by
  obtain ⟨T, h1, h2⟩ := h
  exact ⟨T, 0, h1, RowInt.start _ _ _ _, by grind⟩
theorem SumTo.step {fills : Int → Bool} {es : List E2} {X0 X1 Y0 x y : Int} {q S : Rat} (h : SumTo fills es X0 X1 Y0 x y q) (hx : X0 ≤ x) (hS : AreaOf fills es (256 * x) (256 * y) (256 * (x + 1)) (256 * (y + 1)) S) : SumTo fills es X0 X1 Y0 (x + 1) y (q + S / 65536) := by
  obtain ⟨T, R, h1, h2, h3⟩ := h
  exact ⟨T, R + S, h1, h2.step hx hS, by grind⟩
theorem SumTo.close {fills : Int → Bool} {es : List E2} {X0 X1 Y0 y : Int} {q : Rat} (h : SumTo fills es X0 X1 Y0 X1 y q) : SumRow fills es X0 X1 Y0 (y + 1) q := by
  obtain ⟨T, R, h1, h2, h3⟩ := h
  exact ⟨T + R, h1.step h2, h3⟩
theorem SumRow.all {fills : Int → Bool} {es : List E2} {x0 y0 x1 y1 : Int} (h : InBox es x0 y0 x1 y1) {X0 Y0 X1 Y1 : Int} (hx0 : 256 * X0 ≤ x0) (hx1 : x1 ≤ 256 * X1) (hy0 : 256 * Y0 ≤ y0) (hy1 : y1 ≤ 256 * Y1) (hx : x0 ≤ x1) (hy : y0 ≤ y1) {S q : Rat}
    (hS : AreaOf fills es x0 y0 x1 y1 S) (hq : SumRow fills es X0 X1 Y0 Y1 q) : q = S / 65536 := by
  obtain ⟨T, h1, h2⟩ := hq
  rw [h2, area_all h hx0 hx1 hy0 hy1 hx hy hS h1]
/-- a box without inner points has no area -/
theorem AreaOf.flat {fills : Int → Bool} {es : List E2} {x0 y0 x1 y1 : Int} {S : Rat} (h : AreaOf fills es x0 y0 x1 y1 S) (hb : x1 ≤ x0 ∨ y1 ≤ y0) : S = 0 := by
  unfold AreaOf at h
  rwa [if_pos hb] at h
end Go.TA
