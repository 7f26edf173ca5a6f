/- Texts put together: TnDig, TnBits, TnKn. -/
import Derived.Lib.EndianBits
/- Numbers by their digits. No program stands here. -/
set_option linter.unusedVariables false
namespace Go.TN
/-! digits to the base 2^32, the lowest first -/
abbrev BB : Nat := 4294967296
def val : List Nat → Nat
  | [] => 0
  | d :: l => d + BB * val l
theorem val_nil : val [] = 0 := rfl
theorem val_cons (d : Nat) (l : List Nat) : val (d :: l) = d + BB * val l := rfl
def OkD (l : List Nat) : Prop := ∀ d ∈ l, d < BB
theorem OkD.nil : OkD [] := fun d h => by cases h
theorem OkD.cons {d : Nat} {l : List Nat} (h : OkD (d :: l)) : d < BB ∧ OkD l := ⟨h d List.mem_cons_self, fun x hx => h x (List.mem_cons_of_mem _ hx)⟩
theorem OkD.mk {d : Nat} {l : List Nat} (h : d < BB) (k : OkD l) : OkD (d :: l) := fun x hx => by
  rcases List.mem_cons.1 hx with rfl | hx
  · exact h
  · exact k x hx
theorem OkD.at {l : List Nat} (h : OkD l) {i d : Nat} (hd : l[i]? = some d) : d < BB := h d (List.mem_of_getElem? hd)
theorem OkD.take {l : List Nat} (h : OkD l) (k : Nat) : OkD (l.take k) := fun x hx => h x (List.mem_of_mem_take hx)
theorem OkD.drop {l : List Nat} (h : OkD l) (k : Nat) : OkD (l.drop k) := fun x hx => h x (List.mem_of_mem_drop hx)
theorem OkD.append {l m : List Nat} (h : OkD l) (k : OkD m) : OkD (l ++ m) := fun x hx => (List.mem_append.1 hx).elim (h x) (k x)
theorem OkD.getD {l : List Nat} (h : OkD l) (i : Nat) : l.getD i 0 < BB := by
  rw [List.getD_eq_getElem?_getD]
  cases e : l[i]? with
  | none => simp
  | some d => simpa using h.at e
theorem val_append (l m : List Nat) : val (l ++ m) = val l + BB ^ l.length * val m := by
  induction l with
  | nil => simp [val]
  | cons d l ih => rw [List.cons_append, val_cons, val_cons, ih, List.length_cons, Nat.pow_succ, Nat.mul_add, Nat.mul_comm (BB ^ l.length) BB, Nat.mul_assoc]; omega
theorem pow_pos (k : Nat) : 0 < BB ^ k := Nat.pow_pos (by decide)
theorem val_lt {l : List Nat} (h : OkD l) : val l < BB ^ l.length := by
  induction l with
  | nil => simp [val]
  | cons d l ih =>
    have h1 := h.cons.1
    have h2 := ih h.cons.2
    rw [val_cons, List.length_cons, Nat.pow_succ, Nat.mul_comm]
    have := Nat.mul_le_mul_left BB (show val l + 1 ≤ BB ^ l.length by omega)
    rw [Nat.mul_comm (BB ^ l.length) BB]
    rw [Nat.mul_add] at this
    rw [Nat.mul_comm (val l) BB]
    omega
theorem val_zeros {l : List Nat} (h : ∀ d ∈ l, d = 0) : val l = 0 := by
  induction l with
  | nil => rfl
  | cons d l ih => rw [val_cons, ih fun x hx => h x (List.mem_cons_of_mem _ hx), h d List.mem_cons_self]; rfl
theorem val_zero {l : List Nat} (h : val l = 0) : ∀ d ∈ l, d = 0 := by
  induction l with
  | nil => intro d hd; cases hd
  | cons x l ih =>
    rw [val_cons] at h
    intro d hd
    have h1 : BB * val l = 0 := by omega
    have h2 : val l = 0 := (Nat.mul_eq_zero.1 h1).resolve_left (by decide)
    rcases List.mem_cons.1 hd with rfl | hd
    · omega
    · exact ih h2 d hd
theorem val_take_drop (l : List Nat) (k : Nat) (hk : k ≤ l.length) : val l = val (l.take k) + BB ^ k * val (l.drop k) := by
  have := val_append (l.take k) (l.drop k)
  rw [List.take_append_drop, List.length_take, Nat.min_eq_left hk] at this
  exact this
theorem take_succ_getD (l : List Nat) (i : Nat) (h : i < l.length) : l.take (i + 1) = l.take i ++ [l.getD i 0] := by
  rw [List.take_add_one, List.getD_eq_getElem?_getD, List.getElem?_eq_getElem h]
  rfl
theorem val_take_succ (l : List Nat) (i : Nat) : val (l.take (i + 1)) = val (l.take i) + BB ^ i * l.getD i 0 := by
  rcases Nat.lt_or_ge i l.length with h | h
  · rw [take_succ_getD l i h, val_append, List.length_take, Nat.min_eq_left (Nat.le_of_lt h)]
    rfl
  · rw [List.take_of_length_le h, List.take_of_length_le (by omega), List.getD_eq_getElem?_getD, List.getElem?_eq_none h]
    simp
theorem drop_getD (l : List Nat) (i : Nat) (h : i < l.length) : l.drop i = l.getD i 0 :: l.drop (i + 1) := by
  rw [List.drop_eq_getElem_cons h, List.getD_eq_getElem?_getD, List.getElem?_eq_getElem h]
  rfl
/-- the digits of a number -/
def dig (n : Nat) : List Nat := if h : n = 0 then [] else n % BB :: dig (n / BB)
  termination_by n
  decreasing_by exact Nat.div_lt_self (by omega) (by decide)
theorem dig_zero : dig 0 = [] := by rw [dig]; rfl
theorem dig_pos {n : Nat} (h : n ≠ 0) : dig n = n % BB :: dig (n / BB) := by rw [dig, dif_neg h]
theorem val_dig (n : Nat) : val (dig n) = n := by
  induction n using Nat.strongRecOn with
  | _ n ih =>
    by_cases h : n = 0
    · subst h; rw [dig_zero]; rfl
    · rw [dig_pos h, val_cons, ih _ (Nat.div_lt_self (by omega) (by decide))]
      have := Nat.mod_add_div n BB
      omega
theorem ok_dig (n : Nat) : OkD (dig n) := by
  induction n using Nat.strongRecOn with
  | _ n ih =>
    by_cases h : n = 0
    · subst h; rw [dig_zero]; exact OkD.nil
    · rw [dig_pos h]
      exact OkD.mk (Nat.mod_lt _ (by decide)) (ih _ (Nat.div_lt_self (by omega) (by decide)))
theorem dig_nil {n : Nat} : dig n = [] ↔ n = 0 := by
  constructor
  · intro h
    by_cases h0 : n = 0
    · exact h0
    · rw [dig_pos h0] at h; cases h
  · rintro rfl; exact dig_zero
theorem dig_val {l : List Nat} (h : OkD l) (hl : ∀ d, l.getLast? = some d → d ≠ 0) : dig (val l) = l := by
  induction l with
  | nil => exact dig_zero
  | cons d l ih =>
    have h1 := h.cons.1
    have hne : val (d :: l) ≠ 0 := by
      intro e
      have hz := val_zero e
      obtain ⟨x, hx⟩ : ∃ x, (d :: l).getLast? = some x := ⟨_, List.getLast?_eq_some_getLast (by simp)⟩
      exact hl x hx (hz x (List.mem_of_getLast? hx))
    rw [dig_pos hne, val_cons]
    have e1 : (d + BB * val l) % BB = d := by rw [Nat.add_mul_mod_self_left, Nat.mod_eq_of_lt h1]
    have e2 : (d + BB * val l) / BB = val l := by rw [Nat.add_mul_div_left _ _ (by decide), Nat.div_eq_of_lt h1, Nat.zero_add]
    rw [e1, e2, ih h.cons.2]
    intro x hx
    refine hl x ?_
    cases l with
    | nil => cases hx
    | cons y l => rw [List.getLast?_cons_cons]; exact hx
theorem dig_last {n d : Nat} (h : (dig n).getLast? = some d) : d ≠ 0 := by
  induction n using Nat.strongRecOn with
  | _ n ih =>
    by_cases h0 : n = 0
    · subst h0; rw [dig_zero] at h; cases h
    · rw [dig_pos h0] at h
      have hlt := Nat.div_lt_self (show 0 < n by omega) (show 1 < BB by decide)
      cases e : dig (n / BB) with
      | nil =>
        rw [e] at h
        simp only [List.getLast?_singleton, Option.some.injEq] at h
        have e1 := dig_nil.1 e
        have e2 := Nat.mod_add_div n BB
        rw [e1, Nat.mul_zero] at e2
        omega
      | cons y l =>
        rw [e, List.getLast?_cons_cons] at h
        exact ih _ hlt (by rw [e]; exact h)
/-- the top digit is not zero, none behind it -/
theorem short_law {l : List Nat} (h : OkD l) {k : Nat} (hk : k ≤ l.length) (h1 : ∀ i, k ≤ i → l.getD i 0 = 0) (h2 : k = 0 ∨ l.getD (k - 1) 0 ≠ 0) : l.take k = dig (val l) := by
  have e : val l = val (l.take k) := by
    rw [val_take_drop l k hk, val_zeros (l := l.drop k), Nat.mul_zero, Nat.add_zero]
    intro d hd
    obtain ⟨i, hi⟩ := List.mem_iff_getElem?.1 hd
    rw [List.getElem?_drop] at hi
    have := h1 (k + i) (by omega)
    rw [List.getD_eq_getElem?_getD, hi] at this
    exact this
  rw [e, dig_val (h.take k)]
  intro d hd
  rcases h2 with rfl | h2
  · simp at hd
  · by_cases hk0 : k = 0
    · subst hk0; simp at hd
    · rw [List.getLast?_take, if_neg hk0] at hd
      rw [List.getD_eq_getElem?_getD] at h2
      cases e : l[k - 1]? with
      | none => rw [List.getElem?_eq_none_iff] at e; omega
      | some x =>
        rw [e] at hd h2
        simp at hd h2
        omega
theorem dig_len_le {l : List Nat} (h : OkD l) : (dig (val l)).length ≤ l.length := by
  have : ∃ k, k ≤ l.length ∧ (∀ i, k ≤ i → l.getD i 0 = 0) ∧ (k = 0 ∨ l.getD (k - 1) 0 ≠ 0) := by
    have : ∀ m, m ≤ l.length → (∀ i, m ≤ i → l.getD i 0 = 0) → ∃ k, k ≤ l.length ∧ (∀ i, k ≤ i → l.getD i 0 = 0) ∧ (k = 0 ∨ l.getD (k - 1) 0 ≠ 0) := by
      intro m
      induction m with
      | zero => intro h1 h2; exact ⟨0, h1, h2, .inl rfl⟩
      | succ m ih =>
        intro h1 h2
        by_cases e : l.getD m 0 = 0
        · exact ih (by omega) fun i hi => by
            rcases Nat.eq_or_lt_of_le hi with rfl | hi
            · exact e
            · exact h2 i hi
        · exact ⟨m + 1, h1, h2, .inr e⟩
    exact this l.length (Nat.le_refl _) fun i hi => by rw [List.getD_eq_getElem?_getD, List.getElem?_eq_none hi]; rfl
  obtain ⟨k, hk, h1, h2⟩ := this
  rw [← short_law h hk h1 h2, List.length_take]
  omega
theorem dig_prefix {l : List Nat} (h : OkD l) : l.take (dig (val l)).length = dig (val l) := by
  have : ∀ m, m ≤ l.length → (∀ i, m ≤ i → l.getD i 0 = 0) → ∃ k, k ≤ l.length ∧ (∀ i, k ≤ i → l.getD i 0 = 0) ∧ (k = 0 ∨ l.getD (k - 1) 0 ≠ 0) := by
    intro m
    induction m with
    | zero => intro h1 h2; exact ⟨0, h1, h2, .inl rfl⟩
    | succ m ih =>
      intro h1 h2
      by_cases e : l.getD m 0 = 0
      · exact ih (by omega) fun i hi => by
          rcases Nat.eq_or_lt_of_le hi with rfl | hi
          · exact e
          · exact h2 i hi
      · exact ⟨m + 1, h1, h2, .inr e⟩
  obtain ⟨k, hk, h1, h2⟩ := this l.length (Nat.le_refl _) fun i hi => by rw [List.getD_eq_getElem?_getD, List.getElem?_eq_none hi]; rfl
  have hs := short_law h hk h1 h2
  have : (dig (val l)).length = k := by rw [← hs, List.length_take]; omega
  rw [this, hs]
theorem dig_lt {n k : Nat} (h : n < BB ^ k) : (dig n).length ≤ k := by
  induction k generalizing n with
  | zero => have : n = 0 := by simpa using h
            subst this; rw [dig_zero]; exact Nat.le_refl _
  | succ k ih =>
    by_cases h0 : n = 0
    · subst h0; rw [dig_zero]; exact Nat.zero_le _
    · rw [dig_pos h0, List.length_cons]
      have : n / BB < BB ^ k := by rw [Nat.div_lt_iff_lt_mul (by decide)]; rwa [Nat.pow_succ] at h
      have := ih this
      omega
theorem dig_ge {n : Nat} (h : n ≠ 0) : BB ^ ((dig n).length - 1) ≤ n := by
  induction n using Nat.strongRecOn with
  | _ n ih =>
    rw [dig_pos h, List.length_cons, Nat.add_sub_cancel]
    by_cases h1 : n / BB = 0
    · rw [h1, dig_zero]; simp; omega
    · have := ih _ (Nat.div_lt_self (by omega) (by decide)) h1
      have hl : 1 ≤ (dig (n / BB)).length := by
        rcases Nat.eq_zero_or_pos (dig (n / BB)).length with e | e
        · exact absurd (dig_nil.1 (List.eq_nil_of_length_eq_zero e)) h1
        · exact e
      obtain ⟨m, hm⟩ : ∃ m, (dig (n / BB)).length = m + 1 := ⟨_, (Nat.sub_add_cancel hl).symm⟩
      rw [hm] at this ⊢
      rw [Nat.add_sub_cancel] at this
      rw [Nat.pow_succ]
      exact Nat.le_trans (Nat.mul_le_mul_right BB this) (Nat.div_mul_le_self n BB)
theorem len_lt_val {a b : Nat} (h : (dig a).length < (dig b).length) : a < b := by
  have hb : b ≠ 0 := by rintro rfl; rw [dig_zero] at h; simp at h
  have h1 := dig_ge hb
  have h2 := val_lt (ok_dig a)
  rw [val_dig] at h2
  have := Nat.pow_le_pow_right (show 0 < BB by decide) (show (dig a).length ≤ (dig b).length - 1 by omega)
  omega
/-- the highest digits being equal, the next one decides -/
theorem cmp_law {a b : List Nat} (ha : OkD a) (hb : OkD b) (hl : a.length = b.length) {i : Nat} (hi : i < a.length) (h1 : a.drop (i + 1) = b.drop (i + 1)) (h2 : a.getD i 0 < b.getD i 0) : val a < val b := by
  rw [val_take_drop a (i + 1) (by omega), val_take_drop b (i + 1) (by omega), h1]
  have e1 := val_take_succ a i
  have e2 := val_take_succ b i
  have e3 := val_lt (ha.take i)
  rw [List.length_take, Nat.min_eq_left (by omega)] at e3
  have := Nat.mul_le_mul_left (BB ^ i) (show a.getD i 0 + 1 ≤ b.getD i 0 by omega)
  rw [Nat.mul_add] at this
  omega
theorem cmp_step {a b : List Nat} {i : Nat} (hi : i < a.length) (hi' : i < b.length) (h1 : a.drop (i + 1) = b.drop (i + 1)) (h2 : a.getD i 0 = b.getD i 0) : a.drop i = b.drop i := by
  rw [drop_getD a i hi, drop_getD b i hi', h1, h2]
theorem val_inj {a b : Nat} (h : dig a = dig b) : a = b := by rw [← val_dig a, h, val_dig]
/-! ## the steps of the loops -/
theorem set_take (o : List Nat) (i d : Nat) (h : i < o.length) : (o.set i d).take (i + 1) = o.take i ++ [d] := by
  rw [List.take_add_one, List.take_set_of_le (Nat.le_refl _), List.getElem?_set_self h]
  rfl
theorem val_set_take (o : List Nat) (i d : Nat) (h : i < o.length) : val ((o.set i d).take (i + 1)) = val (o.take i) + BB ^ i * d := by
  rw [set_take o i d h, val_append, List.length_take, Nat.min_eq_left (Nat.le_of_lt h)]
  rfl
theorem ok_set {o : List Nat} (h : OkD o) (i : Nat) {d : Nat} (hd : d < BB) : OkD (o.set i d) := fun x hx => by
  rcases List.mem_or_eq_of_mem_set hx with h' | rfl
  · exact h x h'
  · exact hd
theorem split_eq (s : Nat) : s % BB + BB * (s / BB) = s := Nat.mod_add_div s BB
theorem ring1 (p v w x y c s q : Nat) (h : v + p * c = w) (e : x + BB * q = s) (k : s = c + y) : v + p * x + p * BB * q = w + p * y := by
  subst k
  have e2 : p * (x + BB * q) = p * (c + y) := by rw [e]
  grind
theorem add_step {a b o : List Nat} {i c s : Nat} (hi : i < o.length) (h : val (o.take i) + BB ^ i * c = val (a.take i) + val (b.take i)) (hs : s = c + (a.getD i 0 + b.getD i 0)) :
    val ((o.set i (s % BB)).take (i + 1)) + BB ^ (i + 1) * (s / BB) = val (a.take (i + 1)) + val (b.take (i + 1)) := by
  rw [val_set_take o i _ hi, val_take_succ a i, val_take_succ b i, Nat.pow_succ]
  have := ring1 (BB ^ i) (val (o.take i)) _ (s % BB) _ c s (s / BB) h (split_eq s) hs
  rw [this]
  grind
/-- what a subtraction leaves of a digit, and what is borrowed -/
theorem ring2 (p v w u x y c b r c' : Nat) (h : v + w = u + p * b) (e : x + y + b = r + BB * c' ∨ True) : True := trivial
theorem sub_step {a b o : List Nat} {i c n c' : Nat} (hi : i < o.length) (h : val (o.take i) + val (b.take i) = val (a.take i) + BB ^ i * c) (hs : n + (b.getD i 0 + c) = a.getD i 0 + BB * c') :
    val ((o.set i n).take (i + 1)) + val (b.take (i + 1)) = val (a.take (i + 1)) + BB ^ (i + 1) * c' := by
  rw [val_set_take o i _ hi, val_take_succ a i, val_take_succ b i, Nat.pow_succ]
  generalize BB ^ i = p at *
  have : p * (n + (b.getD i 0 + c)) = p * (a.getD i 0 + BB * c') := by rw [hs]
  grind
/-- q times v taken off u -/
theorem take_step {u v o : List Nat} {i q c b n c' b' : Nat} (hi : i < o.length) (h : val (o.take i) + q * val (v.take i) = val (u.take i) + BB ^ i * (c + b)) (hs : n + (c + q * v.getD i 0) % BB + b = u.getD i 0 + BB * b') (hc : c' = (c + q * v.getD i 0) / BB) :
    val ((o.set i n).take (i + 1)) + q * val (v.take (i + 1)) = val (u.take (i + 1)) + BB ^ (i + 1) * (c' + b') := by
  rw [val_set_take o i _ hi, val_take_succ u i, val_take_succ v i, Nat.pow_succ]
  have e := split_eq (c + q * v.getD i 0)
  rw [← hc] at e
  generalize (c + q * v.getD i 0) % BB = m at *
  generalize BB ^ i = p at *
  have e1 : p * (n + m + b) = p * (u.getD i 0 + BB * b') := by rw [hs]
  have e2 : p * (m + BB * c') = p * (c + q * v.getD i 0) := by rw [e]
  grind
/-- a row of a product: x times b, to what stands from place i on -/
theorem mul_step {b o : List Nat} {base k x c s lowv : Nat} (hk : k < b.length) (hi : base + k < o.length) (h : val (o.take (base + k)) + BB ^ (base + k) * c = lowv + BB ^ base * (x * val (b.take k))) (old : Nat)
    (hs : s = c + (x * b.getD k 0 + old)) (ho : o.getD (base + k) 0 = old) :
    val ((o.set (base + k) (s % BB)).take (base + k + 1)) + BB ^ (base + k + 1) * (s / BB) = (lowv + BB ^ (base + k) * old) + BB ^ base * (x * val (b.take (k + 1))) := by
  rw [val_set_take o _ _ hi, val_take_succ b k, Nat.pow_succ, Nat.pow_add] at *
  have e := split_eq s
  generalize BB ^ base = p at *
  generalize BB ^ k = r at *
  generalize val (b.take k) = vb at *
  generalize val (o.take (base + k)) = vo at *
  generalize b.getD k 0 = bk at *
  have e2 : p * r * (s % BB + BB * (s / BB)) = p * r * (c + (x * bk + old)) := by rw [e, hs]
  grind
/-- a division by one digit, from the top -/
theorem one_step {a q : List Nat} {i d rest s : Nat} (hi : i < a.length) (hq : i < q.length) (h : val (a.drop (i + 1)) = val (q.drop (i + 1)) * d + rest) (hs : s = rest * BB + a.getD i 0) :
    val (a.drop i) = val ((q.set i (s / d)).drop i) * d + s % d := by
  rw [drop_getD a i hi, val_cons, h, drop_getD (q.set i (s / d)) i (by simpa using hq), val_cons]
  have e1 : (q.set i (s / d)).getD i 0 = s / d := by rw [List.getD_eq_getElem?_getD, List.getElem?_set_self hq]; rfl
  have e2 : (q.set i (s / d)).drop (i + 1) = q.drop (i + 1) := by rw [List.drop_set_of_lt (by omega)]
  rw [e1, e2]
  have e := Nat.mod_add_div s d
  generalize val (q.drop (i + 1)) = w at *
  generalize a.getD i 0 = y at *
  subst hs
  grind
/-! ## Knuth's estimate -/
theorem top3 {l : List Nat} {m : Nat} (h : l.length = m + 3) : val l = val (l.take m) + BB ^ m * (l.getD m 0 + BB * (l.getD (m + 1) 0 + BB * l.getD (m + 2) 0)) := by
  rw [val_take_drop l m (by omega), drop_getD l m (by omega), drop_getD l (m + 1) (by omega), drop_getD l (m + 2) (by omega), val_cons, val_cons, val_cons, List.drop_of_length_le (by omega), val_nil]
  rfl
theorem top2 {l : List Nat} {m : Nat} (h : l.length = m + 2) : val l = val (l.take m) + BB ^ m * (l.getD m 0 + BB * l.getD (m + 1) 0) := by
  rw [val_take_drop l m (by omega), drop_getD l m (by omega), drop_getD l (m + 1) (by omega), val_cons, val_cons, List.drop_of_length_le (by omega), val_nil]
  rfl
/-- an estimate that is no smaller stays so while the test says it is too large -/
theorem guess_keep {U V u2 T v1 v2 q r lowu lowv P : Nat} (hU : U = lowu + P * (u2 + BB * T)) (hV : V = lowv + P * (v2 + BB * v1)) (hlow : lowu < P) (hT : q * v1 + r = T) (hge : U / V ≤ q) (hVp : 0 < V)
    (ht : BB ≤ q ∧ U / V < BB ∨ r * BB + u2 < q * v2) : U / V ≤ q - 1 := by
  rcases ht with ⟨h1, h2⟩ | h
  · omega
  · have : U / V < q := by
      rw [Nat.div_lt_iff_lt_mul hVp, hU, hV]
      have e1 : P * (u2 + BB * T) + P ≤ P * (q * (v2 + BB * v1)) := by
        rw [← Nat.mul_succ]
        apply Nat.mul_le_mul_left
        rw [← hT]
        grind
      have : q * (lowv + P * (v2 + BB * v1)) = q * lowv + P * (q * (v2 + BB * v1)) := by grind
      rw [this]
      omega
    omega
/-- the estimate is at most one too large -/
theorem guess_end {U V u2 T v1 v2 q r lowu lowv P : Nat} (hU : U = lowu + P * (u2 + BB * T)) (hV : V = lowv + P * (v2 + BB * v1)) (hlowv : lowv < P) (hT : q * v1 + r = T) (hq : q < BB) (hv1 : 1 ≤ v1)
    (ht : q * v2 ≤ r * BB + u2 ∨ BB ≤ r) (hv2 : v2 < BB) : q ≤ U / V + 1 := by
  have ht' : q * v2 ≤ r * BB + u2 := by
    rcases ht with h | h
    · exact h
    · have h1 : q * v2 ≤ BB * BB := Nat.mul_le_mul (Nat.le_of_lt hq) (Nat.le_of_lt hv2)
      have h2 : BB * BB ≤ r * BB := Nat.mul_le_mul_right BB h
      omega
  have hVp : 0 < V := by
    have : 0 < P := by omega
    have h0 : 0 < BB * v1 := Nat.mul_pos (by decide) hv1
    have : 0 < P * (v2 + BB * v1) := Nat.mul_pos this (Nat.lt_of_lt_of_le h0 (Nat.le_add_left _ _))
    omega
  rcases Nat.lt_or_ge (U / V + 1) q with h | h
  · exfalso
    have h1 : U < (U / V + 1) * V := by
      have := Nat.lt_div_mul_add (a := U) hVp
      rw [Nat.add_mul, Nat.one_mul]
      exact this
    have h2 : (U / V + 1) * V ≤ (q - 1) * V := Nat.mul_le_mul_right V (by omega)
    have h3 : P * (q * (v2 + BB * v1)) ≤ U := by
      rw [hU]
      have : q * (v2 + BB * v1) ≤ u2 + BB * T := by rw [← hT]; grind
      have := Nat.mul_le_mul_left P this
      omega
    have h4 : V < P * (v2 + BB * v1 + 1) := by
      have e : P * (v2 + BB * v1 + 1) = P * (v2 + BB * v1) + P := by grind
      rw [hV, e]
      omega
    have hq1 : 0 < q := Nat.lt_of_le_of_lt (Nat.zero_le _) h
    obtain ⟨q', hq'⟩ : ∃ q', q = q' + 1 := ⟨q - 1, (Nat.sub_add_cancel hq1).symm⟩
    subst hq'
    rw [Nat.add_sub_cancel] at h2
    generalize hW : v2 + BB * v1 = W at *
    have h5 : q' * V ≤ q' * (P * (W + 1)) := Nat.mul_le_mul_left q' (Nat.le_of_lt h4)
    have h6 : P * ((q' + 1) * W) < q' * (P * (W + 1)) := by omega
    have h7 : P * (W) < P * q' := by
      have e1 : P * ((q' + 1) * W) = P * (q' * W) + P * W := by grind
      have e2 : q' * (P * (W + 1)) = P * (q' * W) + P * q' := by grind
      omega
    have h8 := Nat.lt_of_mul_lt_mul_left h7
    have : BB ≤ W := by
      rw [← hW]
      have := Nat.mul_le_mul_left BB hv1
      omega
    omega
  · exact h
end Go.TN

/- Words of 32 and 64 bits put together and parted. No program stands here. -/
set_option linter.unusedVariables false
namespace Go.TN

theorem or_lo {a b : Nat} (ha : a < BB) (hb : b < BB) : bits .or .u64 (b : Int) ((a * BB : Nat) : Int) = ((a * BB + b : Nat) : Int) := by
  have hB : BB = 4294967296 := rfl
  rw [hB] at ha hb ⊢
  rw [u64_or32 (b : Int) ((a * 4294967296 : Nat) : Int) (by omega) (by omega) (by omega) (by omega) (by omega)]
  omega
theorem or_hi {a b : Nat} (ha : a < BB) (hb : b < BB) : bits .or .u64 ((a * BB : Nat) : Int) (b : Int) = ((a * BB + b : Nat) : Int) := by
  have hB : BB = 4294967296 := rfl
  rw [hB] at ha hb ⊢
  have h := or_lo (a := a) (b := b) ha hb
  have h1 := (bits_nat .u64 64 (by decide) wraps_u64 b (a * 4294967296) (by omega) (by omega)).2
  have h2 := (bits_nat .u64 64 (by decide) wraps_u64 (a * 4294967296) b (by omega) (by omega)).2
  rw [hB] at h
  rw [h1, Nat.or_comm] at h
  rw [h2, h]
theorem and_lo {s : Nat} (hs : s < 18446744073709551616) : bits .and .u64 (s : Int) 4294967295 = ((s % BB : Nat) : Int) := by
  have h1 := (bits_nat .u64 64 (by decide) wraps_u64 s 4294967295 (by omega) (by omega)).1
  have h2 := Nat.and_two_pow_sub_one_eq_mod s 32
  have e : ((4294967295 : Nat) : Int) = 4294967295 := rfl
  rw [e] at h1
  rw [h1]
  exact congrArg _ h2
/-- low bits below 2^p, high bits a multiple of 2^p -/
theorem or_part {h v p : Nat} (hp : h < 2 ^ p) (hv : v % 2 ^ p = 0) (hh : h < BB) (hvB : v < BB) : bits .or .u32 (h : Int) (v : Int) = ((h + v : Nat) : Int) := by
  have hB : BB = 4294967296 := rfl
  rw [hB] at hh hvB
  have h1 := (bits_nat .u32 32 (by decide) wraps_u32 h v (by omega) (by omega)).2
  rw [h1]
  obtain ⟨q, hq⟩ : ∃ q, v = 2 ^ p * q := ⟨v / 2 ^ p, (Nat.mul_div_cancel' (Nat.dvd_of_mod_eq_zero hv)).symm⟩
  have h2 := Nat.two_pow_add_eq_or_of_lt hp q
  rw [hq, Nat.or_comm, ← h2, Nat.add_comm]
end Go.TN

/- Division of long numbers (Knuth), the law. No program stands here. -/
set_option linter.unusedVariables false
namespace Go.TN
/-! ## Knuth's division -/
theorem split3 (us : List Nat) (k m : Nat) : us = us.take k ++ ((us.drop k).take m ++ us.drop (k + m)) := by
  rw [← List.drop_drop, List.take_append_drop, List.take_append_drop]
theorem val3 {pre p post : List Nat} {k : Nat} (hk : pre.length = k) (hz : ∀ d ∈ post, d = 0) : val (pre ++ (p ++ post)) = val pre + BB ^ k * val p := by
  rw [val_append, val_append, val_zeros hz, Nat.mul_zero, Nat.add_zero, hk]
/-- what the sign of the difference tells -/
theorem neg_law {X V Q q P p b : Nat} (hV : 0 < V) (hQ : Q = X / V) (h1 : Q ≤ q) (h2 : q ≤ Q + 1) (hp : p < P) (hb : b ≤ 1) (h : p + q * V = X + P * b) :
    (b = 0 → q = Q ∧ p = X % V) ∧ (b = 1 → q = Q + 1 ∧ p + V = P + X % V) := by
  have e := Nat.mod_add_div X V
  rw [← hQ, Nat.mul_comm] at e
  have r := Nat.mod_lt X hV
  generalize X % V = m at *
  constructor
  · rintro rfl
    rw [Nat.mul_zero, Nat.add_zero] at h
    rcases Nat.eq_or_lt_of_le h1 with h3 | h3
    · subst h3; exact ⟨rfl, by omega⟩
    · have h4 := Nat.mul_le_mul_right V h3
      rw [Nat.succ_mul] at h4
      omega
  · rintro rfl
    rw [Nat.mul_one] at h
    rcases Nat.eq_or_lt_of_le h1 with h3 | h3
    · subst h3; omega
    · have h4 : q = Q + 1 := by omega
      subst h4
      rw [Nat.add_mul, Nat.one_mul] at h
      exact ⟨rfl, by omega⟩
/-- what adding back leaves -/
theorem back_law {low P x m : Nat} (hP : 0 < P) (hl : low < P) (hm : m < P) (h : low + P * x = P * BB + m) : x = BB ∧ low = m := by
  have h1 : x = BB := by
    rcases Nat.lt_trichotomy x BB with h2 | h2 | h2
    · have := Nat.mul_le_mul_left P h2
      rw [Nat.mul_succ] at this
      omega
    · exact h2
    · have := Nat.mul_le_mul_left P h2
      rw [Nat.mul_succ] at this
      omega
  subst h1
  exact ⟨rfl, by omega⟩
/-- the state of the division with j digits of the quotient to come -/
structure KnS (a V n j : Nat) (us q : List Nat) : Prop where
  ok : OkD us
  okq : OkD q
  zero : ∀ t, j + n ≤ t → us.getD t 0 = 0
  lt : val us < BB ^ j * V
  eq : a = val (q.drop j) * (BB ^ j * V) + val us
theorem zero_drop {us : List Nat} {m : Nat} (h : ∀ t, m ≤ t → us.getD t 0 = 0) : ∀ d ∈ us.drop m, d = 0 := fun d hd => by
  obtain ⟨i, hi⟩ := List.mem_iff_getElem?.1 hd
  rw [List.getElem?_drop] at hi
  have := h (m + i) (by omega)
  rw [List.getD_eq_getElem?_getD, hi] at this
  exact this
/-- the part that is divided next -/
theorem KnS.part {a V n k : Nat} {us q : List Nat} (h : KnS a V n (k + 1) us q) (hl : k + n + 1 ≤ us.length) :
    val ((us.drop k).take (n + 1)) < BB * V ∧ (∀ d ∈ us.drop (k + (n + 1)), d = 0) ∧ val us = val (us.take k) + BB ^ k * val ((us.drop k).take (n + 1)) := by
  have hz := zero_drop (us := us) (m := k + (n + 1)) fun t ht => h.zero t (by omega)
  have e : val us = val (us.take k) + BB ^ k * val ((us.drop k).take (n + 1)) := by
    have := val3 (pre := us.take k) (p := (us.drop k).take (n + 1)) (post := us.drop (k + (n + 1))) (k := k) (by rw [List.length_take]; omega) hz
    rw [← split3] at this
    exact this
  refine ⟨?_, hz, e⟩
  have h1 := h.lt
  rw [e, Nat.pow_succ, Nat.mul_assoc] at h1
  exact Nat.lt_of_mul_lt_mul_left (Nat.lt_of_le_of_lt (Nat.le_add_left _ _) h1)
/-- one digit of the quotient -/
theorem KnS.next {a V n k : Nat} {us q p : List Nat} (h : KnS a V n (k + 1) us q) (hl : k + n + 1 ≤ us.length) (hV : 0 < V) (hVn : V < BB ^ n) (hp : p.length = n + 1) (hop : OkD p)
    (hpv : val p = val ((us.drop k).take (n + 1)) % V) (hkq : k < q.length) :
    KnS a V n k (us.take k ++ (p ++ us.drop (k + (n + 1)))) (q.set k (val ((us.drop k).take (n + 1)) / V)) := by
  obtain ⟨h1, hz, e⟩ := h.part hl
  have hlk : (us.take k).length = k := by rw [List.length_take]; omega
  have hpV : val p < V := by rw [hpv]; exact Nat.mod_lt _ hV
  have hval := val3 (pre := us.take k) (p := p) (post := us.drop (k + (n + 1))) (k := k) hlk hz
  have hlow := val_lt (h.ok.take k)
  rw [hlk] at hlow
  have hQ : val ((us.drop k).take (n + 1)) / V < BB := Nat.div_lt_of_lt_mul (by rw [Nat.mul_comm]; exact h1)
  refine ⟨(h.ok.take k).append (hop.append (h.ok.drop _)), ok_set h.okq k hQ, fun t ht => ?_, ?_, ?_⟩
  · rw [List.getD_eq_getElem?_getD, List.getElem?_append_right (by omega), hlk]
    by_cases ht2 : t - k < n + 1
    · have ht3 : t - k = n := by omega
      rw [ht3, List.getElem?_append_left (by omega)]
      have e1 := val_take_succ p n
      rw [List.take_of_length_le (by omega)] at e1
      have : p.getD n 0 = 0 := by
        rcases Nat.eq_zero_or_pos (p.getD n 0) with h3 | h3
        · exact h3
        · exfalso
          have := Nat.mul_le_mul_left (BB ^ n) h3
          rw [Nat.mul_succ, Nat.mul_zero, Nat.zero_add] at this
          generalize BB ^ n = P at *
          omega
      rw [List.getD_eq_getElem?_getD] at this
      exact this
    · rw [List.getElem?_append_right (by omega), hp]
      have := h.zero t (by omega)
      rw [List.getD_eq_getElem?_getD] at this
      rw [List.getElem?_drop, show k + (n + 1) + (t - k - (n + 1)) = t by omega]
      exact this
  · rw [hval]
    have h2 := Nat.mul_le_mul_left (BB ^ k) (show val p + 1 ≤ V by omega)
    rw [Nat.mul_succ] at h2
    generalize BB ^ k = P at *
    omega
  · rw [hval, drop_getD (q.set k _) k (by rw [List.length_set]; exact hkq), val_cons, List.drop_set_of_lt (by omega)]
    have e1 : (q.set k (val ((us.drop k).take (n + 1)) / V)).getD k 0 = val ((us.drop k).take (n + 1)) / V := by rw [List.getD_eq_getElem?_getD, List.getElem?_set_self hkq]; rfl
    rw [e1, h.eq, e, Nat.pow_succ, hpv]
    have e2 := Nat.mod_add_div (val ((us.drop k).take (n + 1))) V
    generalize val ((us.drop k).take (n + 1)) = X at *
    generalize val (q.drop (k + 1)) = W at *
    generalize val (us.take k) = Y at *
    generalize BB ^ k = P at *
    have e3 : P * X = P * (X % V + V * (X / V)) := by rw [e2]
    rw [e3]
    grind
theorem KnS.done {a V n : Nat} {us q : List Nat} (h : KnS a V n 0 us q) (hV : 0 < V) : val q = a / V ∧ val us = a % V := by
  have h1 := h.lt
  have h2 := h.eq
  rw [Nat.pow_zero, Nat.one_mul] at h1 h2
  rw [List.drop_zero] at h2
  constructor
  · rw [h2, Nat.mul_comm, Nat.mul_add_div hV, Nat.div_eq_of_lt h1, Nat.add_zero]
  · rw [h2, Nat.mul_comm, Nat.mul_add_mod, Nat.mod_eq_of_lt h1]
/-- a divisor whose top bit stands -/
theorem top_norm {V y : Nat} (hy : 1 ≤ y) (h1 : BB ^ (y - 1) * 2147483648 ≤ V) (h2 : V < BB ^ y) : (dig V).length = y ∧ 2147483648 ≤ (dig V).getD (y - 1) 0 := by
  have hle := dig_lt h2
  have hvl := val_lt (ok_dig V)
  rw [val_dig] at hvl
  have hP := pow_pos (y - 1)
  have hge : y ≤ (dig V).length := by
    rcases Nat.lt_or_ge (dig V).length y with h | h
    · exfalso
      have := Nat.pow_le_pow_right (show 0 < BB by decide) (show (dig V).length ≤ y - 1 by omega)
      generalize BB ^ (y - 1) = P at *
      omega
    · exact h
  have hl : (dig V).length = y := by omega
  refine ⟨hl, ?_⟩
  have e := val_take_succ (dig V) (y - 1)
  rw [show y - 1 + 1 = y by omega, List.take_of_length_le (by omega), val_dig] at e
  have h3 := val_lt ((ok_dig V).take (y - 1))
  rw [List.length_take, hl, Nat.min_eq_left (by omega)] at h3
  rcases Nat.lt_or_ge ((dig V).getD (y - 1) 0) 2147483648 with h | h
  · exfalso
    have := Nat.mul_le_mul_left (BB ^ (y - 1)) h
    rw [Nat.mul_succ] at this
    generalize BB ^ (y - 1) = P at *
    omega
  · exact h
/-- the divisor shifted until its top bit stands -/
theorem norm_shift {b y bl : Nat} (hl : (dig b).length = y) (hy : 1 ≤ y) (hbl : 1 ≤ bl) (hbl2 : bl ≤ 32) (h1 : 2 ^ (bl - 1) ≤ (dig b).getD (y - 1) 0) (h2 : (dig b).getD (y - 1) 0 < 2 ^ bl) :
    BB ^ (y - 1) * 2147483648 ≤ b * 2 ^ (32 - bl) ∧ b * 2 ^ (32 - bl) < BB ^ y := by
  have e := val_take_succ (dig b) (y - 1)
  rw [show y - 1 + 1 = y by omega, List.take_of_length_le (by omega), val_dig] at e
  have h3 := val_lt ((ok_dig b).take (y - 1))
  rw [List.length_take, hl, Nat.min_eq_left (by omega)] at h3
  have p1 : 2 ^ (bl - 1) * 2 ^ (32 - bl) = 2147483648 := by rw [← Nat.pow_add, show bl - 1 + (32 - bl) = 31 by omega]
  have p2 : 2 ^ bl * 2 ^ (32 - bl) = BB := by rw [← Nat.pow_add, show bl + (32 - bl) = 32 by omega]
  generalize (dig b).getD (y - 1) 0 = t at *
  constructor
  · rw [← p1]
    have : BB ^ (y - 1) * (2 ^ (bl - 1) * 2 ^ (32 - bl)) = BB ^ (y - 1) * 2 ^ (bl - 1) * 2 ^ (32 - bl) := by grind
    rw [this]
    apply Nat.mul_le_mul_right
    rw [e]
    exact Nat.le_trans (Nat.mul_le_mul_left _ h1) (Nat.le_add_left _ _)
  · have k1 : b < BB ^ (y - 1) * (t + 1) := by rw [Nat.mul_succ, e]; omega
    have k2 : BB ^ (y - 1) * (t + 1) ≤ BB ^ (y - 1) * 2 ^ bl := Nat.mul_le_mul_left _ h2
    have k3 : b * 2 ^ (32 - bl) < BB ^ (y - 1) * 2 ^ bl * 2 ^ (32 - bl) := Nat.mul_lt_mul_of_pos_right (Nat.lt_of_lt_of_le k1 k2) (Nat.pow_pos (by decide))
    rw [Nat.mul_assoc, p2, ← Nat.pow_succ, show (y - 1).succ = y by omega] at k3
    exact k3
end Go.TN
