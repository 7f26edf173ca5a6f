/- Texts put together: RgOut, RgOutR, RgOutE. -/
import Derived.Test.YtkjpcjmbhpfelaaGreatRgComp
/- Outlines: boundary edges of a set of pixels, cycles of them, rings. Plain law: no program stands here. -/
set_option linter.unusedVariables false
set_option linter.unusedSimpArgs false
namespace Go.Reg
open Go.Proofs.YtkjpcjmbhpfelaaGreat

/-! the four pixels around a point: which unit edges leave it, which come in (0 right, 1 down, 2 left, 3 up) -/
def outQ (nw ne sw se : Bool) : Nat → Bool
  | 0 => se && !ne
  | 1 => sw && !se
  | 2 => nw && !sw
  | _ => ne && !nw
def inQ (nw ne sw se : Bool) : Nat → Bool
  | 0 => sw && !nw
  | 1 => nw && !ne
  | 2 => ne && !se
  | _ => se && !sw
def turnQ (nw ne sw se : Bool) (d : Nat) : Nat := if outQ nw ne sw se ((d + 1) % 4) then (d + 1) % 4 else if outQ nw ne sw se d then d else (d + 3) % 4
theorem turnQ_out : ∀ nw ne sw se, ∀ d, d < 4 → inQ nw ne sw se d = true → outQ nw ne sw se (turnQ nw ne sw se d) = true ∧ turnQ nw ne sw se d ≠ (d + 2) % 4 ∧ turnQ nw ne sw se d < 4 := by decide
theorem turnQ_inj : ∀ nw ne sw se, ∀ d, d < 4 → ∀ e, e < 4 → inQ nw ne sw se d = true → inQ nw ne sw se e = true → turnQ nw ne sw se d = turnQ nw ne sw se e → d = e := by decide
theorem turnQ_only : ∀ nw ne sw se, ∀ d, d < 4 → ∀ e, e < 4 → inQ nw ne sw se d = true → outQ nw ne sw se ((d + 1) % 4) = false → outQ nw ne sw se e = true → e = turnQ nw ne sw se d := by decide
theorem turnQ_str1 : ∀ nw ne sw se, ∀ d, d < 4 → ∀ e, e < 4 → inQ nw ne sw se d = true → outQ nw ne sw se d = true → outQ nw ne sw se e = true → e = d := by decide
theorem turnQ_str2 : ∀ nw ne sw se, ∀ d, d < 4 → ∀ e, e < 4 → inQ nw ne sw se d = true → outQ nw ne sw se d = true → inQ nw ne sw se e = true → e = d := by decide
abbrev Pix := Int → Int → Bool
def outB (S : Pix) (d : Nat) (x y : Int) : Bool := outQ (S (x - 1) (y - 1)) (S x (y - 1)) (S (x - 1) y) (S x y) d
def inB' (S : Pix) (d : Nat) (x y : Int) : Bool := inQ (S (x - 1) (y - 1)) (S x (y - 1)) (S (x - 1) y) (S x y) d
def turnS (S : Pix) (d : Nat) (x y : Int) : Nat := turnQ (S (x - 1) (y - 1)) (S x (y - 1)) (S (x - 1) y) (S x y) d
theorem in_step (S : Pix) (x y : Int) : inB' S 0 x y = outB S 0 (x - 1) y ∧ inB' S 1 x y = outB S 1 x (y - 1) ∧ inB' S 2 x y = outB S 2 (x + 1) y ∧ inB' S 3 x y = outB S 3 x (y + 1) := by
  unfold inB' outB inQ outQ
  rw [Int.add_sub_cancel, Int.add_sub_cancel]
  exact ⟨rfl, rfl, rfl, rfl⟩

/-! straight pieces of boundary: from, to, direction -/
abbrev Edg := Int × Int × Int × Int × Nat
def shapeE (e : Edg) : Prop :=
  e.2.2.2.2 = 0 ∧ e.2.2.2.1 = e.2.1 ∧ e.1 < e.2.2.1 ∨ e.2.2.2.2 = 1 ∧ e.2.2.1 = e.1 ∧ e.2.1 < e.2.2.2.1 ∨
  e.2.2.2.2 = 2 ∧ e.2.2.2.1 = e.2.1 ∧ e.2.2.1 < e.1 ∨ e.2.2.2.2 = 3 ∧ e.2.2.1 = e.1 ∧ e.2.2.2.1 < e.2.1
/-- the unit edge of direction d that leaves (x, y) is a part of e -/
def covE (e : Edg) (d : Nat) (x y : Int) : Prop :=
  e.2.2.2.2 = d ∧ (d = 0 ∧ y = e.2.1 ∧ e.1 ≤ x ∧ x < e.2.2.1 ∨ d = 1 ∧ x = e.1 ∧ e.2.1 ≤ y ∧ y < e.2.2.2.1 ∨
  d = 2 ∧ y = e.2.1 ∧ e.2.2.1 < x ∧ x ≤ e.1 ∨ d = 3 ∧ x = e.1 ∧ e.2.2.2.1 < y ∧ y ≤ e.2.1)
def unitE (S : Pix) (e : Edg) : Prop := ∀ d x y, covE e d x y → outB S d x y = true
structure EdgeSys (S : Pix) (E : List Edg) : Prop where
  shape : ∀ e ∈ E, shapeE e
  unit : ∀ e ∈ E, unitE S e
  cover : ∀ d x y, d < 4 → outB S d x y = true → ∃ (i : Nat) (e : Edg), E[i]? = some e ∧ covE e d x y
  uniq : ∀ (i j : Nat) (e f : Edg) (d : Nat) (x y : Int), E[i]? = some e → E[j]? = some f → covE e d x y → covE f d x y → i = j
theorem shape_dir {e : Edg} (h : shapeE e) : e.2.2.2.2 < 4 := by
  unfold shapeE at h; omega
/-- a piece covers the unit edge at its beginning, and one that ends at its end -/
theorem cov_from {e : Edg} (h : shapeE e) : covE e e.2.2.2.2 e.1 e.2.1 := by
  unfold shapeE at h; unfold covE; omega
theorem in_to {S : Pix} {e : Edg} (h : shapeE e) (hu : unitE S e) : inB' S e.2.2.2.2 e.2.2.1 e.2.2.2.1 = true := by
  obtain ⟨h0, h1, h2, h3⟩ := in_step S e.2.2.1 e.2.2.2.1
  rcases h with ⟨k, _, _⟩ | ⟨k, _, _⟩ | ⟨k, _, _⟩ | ⟨k, _, _⟩
  · rw [k, h0]; exact hu _ _ _ ⟨k, by omega⟩
  · rw [k, h1]; exact hu _ _ _ ⟨k, by omega⟩
  · rw [k, h2]; exact hu _ _ _ ⟨k, by omega⟩
  · rw [k, h3]; exact hu _ _ _ ⟨k, by omega⟩
/-- the unit edge that ends at (x, y) -/
def inCov (e : Edg) (d : Nat) (x y : Int) : Prop :=
  e.2.2.2.2 = d ∧ (d = 0 ∧ y = e.2.1 ∧ e.1 < x ∧ x ≤ e.2.2.1 ∨ d = 1 ∧ x = e.1 ∧ e.2.1 < y ∧ y ≤ e.2.2.2.1 ∨
  d = 2 ∧ y = e.2.1 ∧ e.2.2.1 ≤ x ∧ x < e.1 ∨ d = 3 ∧ x = e.1 ∧ e.2.2.2.1 ≤ y ∧ y < e.2.1)
theorem inCov_to {e : Edg} (h : shapeE e) : inCov e e.2.2.2.2 e.2.2.1 e.2.2.2.1 := by
  unfold shapeE at h; unfold inCov; omega
theorem inCov_of {e : Edg} {d : Nat} {x y : Int} (h : covE e d x y) (hne : ¬ (x = e.1 ∧ y = e.2.1)) : inCov e d x y := by
  unfold covE at h; unfold inCov; omega
theorem inCov_in {S : Pix} {e : Edg} (hu : unitE S e) {d : Nat} {x y : Int} (h : inCov e d x y) : inB' S d x y = true := by
  obtain ⟨h0, h1, h2, h3⟩ := in_step S x y
  obtain ⟨k, h⟩ := h
  rcases h with ⟨rfl, _, _⟩ | ⟨rfl, _, _⟩ | ⟨rfl, _, _⟩ | ⟨rfl, _, _⟩
  · rw [h0]; exact hu _ _ _ ⟨k, by omega⟩
  · rw [h1]; exact hu _ _ _ ⟨k, by omega⟩
  · rw [h2]; exact hu _ _ _ ⟨k, by omega⟩
  · rw [h3]; exact hu _ _ _ ⟨k, by omega⟩
theorem EdgeSys.uniqIn {S : Pix} {E : List Edg} (h : EdgeSys S E) {i j : Nat} {e f : Edg} {d : Nat} {x y : Int} (hi : E[i]? = some e) (hj : E[j]? = some f) (he : inCov e d x y) (hf : inCov f d x y) : i = j := by
  obtain ⟨k, he⟩ := he
  obtain ⟨m, hf⟩ := hf
  rcases he with ⟨rfl, _, _⟩ | ⟨rfl, _, _⟩ | ⟨rfl, _, _⟩ | ⟨rfl, _, _⟩
  · exact h.uniq i j e f 0 (x - 1) y hi hj ⟨k, by omega⟩ ⟨m, by omega⟩
  · exact h.uniq i j e f 1 x (y - 1) hi hj ⟨k, by omega⟩ ⟨m, by omega⟩
  · exact h.uniq i j e f 2 (x + 1) y hi hj ⟨k, by omega⟩ ⟨m, by omega⟩
  · exact h.uniq i j e f 3 x (y + 1) hi hj ⟨k, by omega⟩ ⟨m, by omega⟩
/-- the piece that follows -/
def NextE (S : Pix) (E : List Edg) (i j : Nat) : Prop :=
  ∃ e f : Edg, E[i]? = some e ∧ E[j]? = some f ∧ f.1 = e.2.2.1 ∧ f.2.1 = e.2.2.2.1 ∧ f.2.2.2.2 = turnS S e.2.2.2.2 e.2.2.1 e.2.2.2.1
theorem EdgeSys.next {S : Pix} {E : List Edg} (h : EdgeSys S E) {i : Nat} {e : Edg} (hi : E[i]? = some e) : ∃ j, NextE S E i j := by
  have he := List.mem_of_getElem? hi
  have hs := h.shape e he
  have hin := in_to hs (h.unit e he)
  obtain ⟨t1, t2, t3⟩ := turnQ_out _ _ _ _ _ (shape_dir hs) hin
  obtain ⟨j, f, hj, hc⟩ := h.cover _ e.2.2.1 e.2.2.2.1 t3 t1
  by_cases hf : e.2.2.1 = f.1 ∧ e.2.2.2.1 = f.2.1
  · exact ⟨j, e, f, hi, hj, hf.1.symm, hf.2.symm, hc.1⟩
  · exfalso
    have hic := inCov_of hc hf
    have hfin := inCov_in (h.unit f (List.mem_of_getElem? hj)) hic
    have hd := turnQ_str2 _ _ _ _ _ t3 _ (shape_dir hs) hfin t1 hin
    have e1 : inCov e (turnQ (S (e.2.2.1 - 1) (e.2.2.2.1 - 1)) (S e.2.2.1 (e.2.2.2.1 - 1)) (S (e.2.2.1 - 1) e.2.2.2.1) (S e.2.2.1 e.2.2.2.1) e.2.2.2.2) e.2.2.1 e.2.2.2.1 := by rw [← hd]; exact inCov_to hs
    have := h.uniqIn hi hj e1 hic
    subst this
    rw [hi] at hj
    injection hj with hj
    subst hj
    unfold covE at hc
    unfold shapeE at hs
    omega
theorem EdgeSys.start {S : Pix} {E : List Edg} (h : EdgeSys S E) {i j : Nat} {e f : Edg} (hi : E[i]? = some e) (hj : E[j]? = some f) (h1 : e.1 = f.1) (h2 : e.2.1 = f.2.1) (h3 : e.2.2.2.2 = f.2.2.2.2) : i = j := by
  have a := cov_from (h.shape e (List.mem_of_getElem? hi))
  have b := cov_from (h.shape f (List.mem_of_getElem? hj))
  rw [← h1, ← h2, ← h3] at b
  exact h.uniq i j e f _ _ _ hi hj a b
theorem EdgeSys.func {S : Pix} {E : List Edg} (h : EdgeSys S E) {i j k : Nat} (h1 : NextE S E i j) (h2 : NextE S E i k) : j = k := by
  obtain ⟨e, f, a1, a2, a3, a4, a5⟩ := h1
  obtain ⟨e', g, b1, b2, b3, b4, b5⟩ := h2
  rw [a1] at b1
  injection b1 with b1
  subst b1
  exact h.start a2 b2 (by rw [a3, b3]) (by rw [a4, b4]) (by rw [a5, b5])
theorem EdgeSys.inj {S : Pix} {E : List Edg} (h : EdgeSys S E) {i j k : Nat} (h1 : NextE S E i k) (h2 : NextE S E j k) : i = j := by
  obtain ⟨e, f, a1, a2, a3, a4, a5⟩ := h1
  obtain ⟨e', g, b1, b2, b3, b4, b5⟩ := h2
  rw [a2] at b2
  injection b2 with b2
  subst b2
  have s1 := h.shape e (List.mem_of_getElem? a1)
  have s2 := h.shape e' (List.mem_of_getElem? b1)
  have i1 := in_to s1 (h.unit e (List.mem_of_getElem? a1))
  have i2 := in_to s2 (h.unit e' (List.mem_of_getElem? b1))
  have c1 := inCov_to s1
  have c2 := inCov_to s2
  rw [← a3, ← a4] at i1 c1 a5
  rw [← b3, ← b4] at i2 c2 b5
  have hd := turnQ_inj _ _ _ _ _ (shape_dir s1) _ (shape_dir s2) i1 i2 (a5.symm.trans b5)
  rw [← hd] at c2
  exact h.uniqIn a1 b1 c1 c2
/-- what the program takes: the piece that turns clockwise, or the first there is -/
theorem EdgeSys.choice {S : Pix} {E : List Edg} (h : EdgeSys S E) {i j : Nat} {e f : Edg} (hi : E[i]? = some e) (hj : E[j]? = some f) (h1 : f.1 = e.2.2.1) (h2 : f.2.1 = e.2.2.2.1)
    (hd : f.2.2.2.2 = (e.2.2.2.2 + 1) % 4 ∨ ∀ (k : Nat) (g : Edg), E[k]? = some g → g.1 = e.2.2.1 → g.2.1 = e.2.2.2.1 → g.2.2.2.2 ≠ (e.2.2.2.2 + 1) % 4) : NextE S E i j := by
  have hs := h.shape e (List.mem_of_getElem? hi)
  have hin := in_to hs (h.unit e (List.mem_of_getElem? hi))
  have hfs := h.shape f (List.mem_of_getElem? hj)
  have hout := h.unit f (List.mem_of_getElem? hj) _ _ _ (cov_from hfs)
  rw [h1, h2] at hout
  refine ⟨e, f, hi, hj, h1, h2, ?_⟩
  rcases hd with hd | hd
  · rw [hd] at hout ⊢
    unfold turnS turnQ
    unfold outB at hout
    rw [if_pos hout]
  · refine turnQ_only _ _ _ _ _ (shape_dir hs) _ (shape_dir hfs) hin ?_ hout
    rw [Bool.eq_false_iff]
    intro hcl
    obtain ⟨k, hk⟩ := h.next hi
    obtain ⟨e', g, k1, k2, k3, k4, k5⟩ := hk
    rw [hi] at k1
    injection k1 with k1
    subst k1
    refine hd k g k2 k3 k4 ?_
    rw [k5]
    unfold turnS turnQ
    rw [if_pos hcl]

/-! cycles of a one-to-one step -/
def Chain (N : Nat → Nat → Prop) (c : List Nat) : Prop := ∀ (k a b : Nat), c[k]? = some a → c[k + 1]? = some b → N a b
theorem Chain.snoc {N : Nat → Nat → Prop} {c : List Nat} {k : Nat} (h : Chain N c) (hk : ∀ a, c.getLast? = some a → N a k) : Chain N (c ++ [k]) := by
  intro t a b ha hb
  rcases Nat.lt_trichotomy (t + 1) c.length with hlt | he | hgt
  · rw [List.getElem?_append_left (by omega)] at ha
    rw [List.getElem?_append_left (by omega)] at hb
    exact h t a b ha hb
  · rw [List.getElem?_append_left (by omega)] at ha
    rw [List.getElem?_append_right (by omega), he, Nat.sub_self] at hb
    simp only [List.getElem?_cons_zero, Option.some.injEq] at hb
    subst hb
    refine hk a ?_
    rw [List.getLast?_eq_getElem?, show c.length - 1 = t by omega]
    exact ha
  · rw [List.getElem?_append_right (by omega)] at hb
    have := (List.getElem?_eq_some_iff.1 hb).1
    simp at this
    omega
/-- a closed chain -/
def Cyc (N : Nat → Nat → Prop) (c : List Nat) : Prop := c ≠ [] ∧ Chain N c ∧ ∀ a b, c.getLast? = some a → c.head? = some b → N a b
theorem Cyc.pred {N : Nat → Nat → Prop} {c : List Nat} (h : Cyc N c) {b : Nat} (hb : b ∈ c) : ∃ a ∈ c, N a b := by
  obtain ⟨t, ht⟩ := List.mem_iff_getElem?.1 hb
  have hl := (List.getElem?_eq_some_iff.1 ht).1
  cases t with
  | zero =>
    have hne := h.1
    obtain ⟨a, ha⟩ : ∃ a, c.getLast? = some a := by
      cases hq : c.getLast? with
      | none => exact absurd (List.getLast?_eq_none_iff.1 hq) hne
      | some a => exact ⟨a, rfl⟩
    exact ⟨a, List.mem_of_getLast? ha, h.2.2 a b ha (by rw [List.head?_eq_getElem?]; exact ht)⟩
  | succ t =>
    have ha := List.getElem?_eq_getElem (show t < c.length by omega)
    exact ⟨_, List.getElem_mem _, h.2.1 t _ b ha ht⟩
structure CycInv (N : Nat → Nat → Prop) (n : Nat) (cs : List (List Nat)) (c : List Nat) : Prop where
  cyc : ∀ q ∈ cs, Cyc N q
  chain : Chain N c
  nodup : (cs.flatten ++ c).Nodup
  lt : ∀ j ∈ cs.flatten ++ c, j < n
theorem CycInv.start (N : Nat → Nat → Prop) (n : Nat) : CycInv N n [] [] := ⟨fun q h => (List.not_mem_nil h).elim, fun k a b h => by simp at h, by simp, by simp⟩
theorem CycInv.push {N : Nat → Nat → Prop} {n k : Nat} {cs : List (List Nat)} {c : List Nat} (h : CycInv N n cs c) (hk : k < n) (hn : k ∉ cs.flatten ++ c) (hl : ∀ a, c.getLast? = some a → N a k) : CycInv N n cs (c ++ [k]) := by
  refine ⟨h.cyc, h.chain.snoc hl, ?_, fun j hj => ?_⟩
  · rw [← List.append_assoc]
    refine List.nodup_append.2 ⟨h.nodup, by simp, fun a ha b hb e => ?_⟩
    simp at hb
    subst hb
    subst e
    exact hn ha
  · rw [← List.append_assoc] at hj
    rcases List.mem_append.1 hj with hj | hj
    · exact h.lt j hj
    · simp at hj; subst hj; exact hk
/-- the walk that meets a used one has come back to where it began -/
theorem CycInv.close {N : Nat → Nat → Prop} (inj : ∀ i j k, N i k → N j k → i = j) {n k a : Nat} {cs : List (List Nat)} {c : List Nat} (h : CycInv N n cs c) (hl : c.getLast? = some a) (hN : N a k) (hk : k ∈ cs.flatten ++ c) : CycInv N n (cs ++ [c]) [] := by
  have hd := List.nodup_append.1 h.nodup
  have ha := List.mem_of_getLast? hl
  have hne : c ≠ [] := fun e => by rw [e] at ha; cases ha
  have hkc : c.head? = some k := by
    rcases List.mem_append.1 hk with hk | hk
    · obtain ⟨q, hq, hkq⟩ := List.mem_flatten.1 hk
      obtain ⟨b, hb, hN2⟩ := (h.cyc q hq).pred hkq
      have e := inj _ _ _ hN hN2
      subst e
      exact absurd rfl (hd.2.2 a (List.mem_flatten.2 ⟨q, hq, hb⟩) a ha)
    · obtain ⟨t, ht⟩ := List.mem_iff_getElem?.1 hk
      cases t with
      | zero => rw [List.head?_eq_getElem?]; exact ht
      | succ t =>
        exfalso
        have hl' := (List.getElem?_eq_some_iff.1 ht).1
        have hb := List.getElem?_eq_getElem (show t < c.length by omega)
        have e := inj _ _ _ hN (h.chain t _ k hb ht)
        rw [List.getLast?_eq_getElem?] at hl
        obtain ⟨m1, m2⟩ := List.getElem?_eq_some_iff.1 hl
        have := (List.getElem_inj (h₀ := m1) (h₁ := (show t < c.length by omega)) hd.2.1).1 (m2.trans e)
        omega
  refine ⟨fun q hq => ?_, fun k a b h => by simp at h, by simpa using h.nodup, by simpa using h.lt⟩
  rcases List.mem_append.1 hq with hq | hq
  · exact h.cyc q hq
  · simp at hq
    subst hq
    refine ⟨hne, h.chain, fun x y hx hy => ?_⟩
    rw [hl] at hx
    rw [hkc] at hy
    injection hx with hx
    injection hy with hy
    subst hx; subst hy
    exact hN
end Go.Reg

/- Outlines: the ring of a cycle of straight pieces. Plain law: no program stands here. -/
set_option linter.unusedVariables false
set_option linter.unusedSimpArgs false
namespace Go.Reg
open Go.Proofs.YtkjpcjmbhpfelaaGreat

abbrev Crn := Int × Int × Nat
/-- the corners met on a way that came in by direction d -/
def corn : Nat → List Edg → List Crn
  | _, [] => []
  | d, e :: l => if d = e.2.2.2.2 then corn d l else (e.1, e.2.1, e.2.2.2.2) :: corn e.2.2.2.2 l
def Path (S : Pix) : Int → Int → Nat → List Edg → Prop
  | _, _, _, [] => True
  | x, y, d, e :: l => e.1 = x ∧ e.2.1 = y ∧ e.2.2.2.2 = turnS S d x y ∧ shapeE e ∧ unitE S e ∧ Path S e.2.2.1 e.2.2.2.1 e.2.2.2.2 l
/-- where a way ends, and by which direction -/
def pend : Int → Int → Nat → List Edg → Crn
  | x, y, d, [] => (x, y, d)
  | _, _, _, e :: l => pend e.2.2.1 e.2.2.2.1 e.2.2.2.2 l
abbrev legE (q : Crn) (x y : Int) : Edg := (q.1, q.2.1, x, y, q.2.2)
def Trav (S : Pix) (q : Crn) (x y : Int) : Prop := shapeE (legE q x y) ∧ unitE S (legE q x y)
def Leg (S : Pix) (q k : Crn) : Prop := Trav S q k.1 k.2.1 ∧ k.2.2 = turnS S q.2.2 k.1 k.2.1 ∧ k.2.2 ≠ q.2.2
def legs (S : Pix) : Crn → List Crn → Prop
  | _, [] => True
  | q, k :: K => Leg S q k ∧ legs S k K
def lastC : Crn → List Crn → Crn
  | q, [] => q
  | _, k :: K => lastC k K
theorem Trav.more {S : Pix} {q : Crn} {x y : Int} {e : Edg} (h : Trav S q x y) (h1 : e.1 = x) (h2 : e.2.1 = y) (hd : e.2.2.2.2 = q.2.2) (hs : shapeE e) (hu : unitE S e) : Trav S q e.2.2.1 e.2.2.2.1 := by
  obtain ⟨a1, a2⟩ := h
  refine ⟨?_, fun d u v hc => ?_⟩
  · unfold shapeE at *; dsimp only at *; omega
  · by_cases hk : covE e d u v
    · exact hu d u v hk
    · refine a2 d u v ?_
      clear a2 hu
      obtain ⟨k0, hc⟩ := hc
      refine ⟨k0, ?_⟩
      have hk' : ¬ (d = 0 ∧ v = e.2.1 ∧ e.1 ≤ u ∧ u < e.2.2.1 ∨ d = 1 ∧ u = e.1 ∧ e.2.1 ≤ v ∧ v < e.2.2.2.1 ∨ d = 2 ∧ v = e.2.1 ∧ e.2.2.1 < u ∧ u ≤ e.1 ∨ d = 3 ∧ u = e.1 ∧ e.2.2.2.1 < v ∧ v ≤ e.2.1) := fun q => hk ⟨by rw [hd]; exact k0, q⟩
      clear hk
      unfold shapeE at a1 hs
      dsimp only at *
      subst h1; subst h2
      rw [k0] at a1 hd
      rw [hd] at hs
      rcases (show d = 0 ∨ d = 1 ∨ d = 2 ∨ d = 3 by omega) with rfl | rfl | rfl | rfl
      all_goals (simp at a1 hs hc hk' ⊢; omega)
theorem trav_of {S : Pix} {e : Edg} (hs : shapeE e) (hu : unitE S e) : Trav S (e.1, e.2.1, e.2.2.2.2) e.2.2.1 e.2.2.2.1 := ⟨hs, hu⟩
theorem path_legs {S : Pix} : ∀ (l : List Edg) (x y : Int) (q : Crn), Path S x y q.2.2 l → Trav S q x y →
    legs S q (corn q.2.2 l) ∧ Trav S (lastC q (corn q.2.2 l)) (pend x y q.2.2 l).1 (pend x y q.2.2 l).2.1 ∧ (lastC q (corn q.2.2 l)).2.2 = (pend x y q.2.2 l).2.2 := by
  intro l
  induction l with
  | nil => intro x y q _ ht; exact ⟨trivial, ht, rfl⟩
  | cons e l ih =>
    intro x y q hp ht
    obtain ⟨h1, h2, h3, hs, hu, hp⟩ := hp
    unfold corn pend
    by_cases hd : q.2.2 = e.2.2.2.2
    · rw [if_pos hd]
      rw [← hd] at hp ⊢
      exact ih _ _ q hp (ht.more h1 h2 hd.symm hs hu)
    · rw [if_neg hd]
      obtain ⟨i1, i2, i3⟩ := ih _ _ (e.1, e.2.1, e.2.2.2.2) hp (trav_of hs hu)
      refine ⟨⟨⟨?_, ?_, fun e => hd e.symm⟩, i1⟩, i2, i3⟩
      · dsimp only; rw [h1, h2]; exact ht
      · dsimp only; rw [h1, h2]; exact h3
/-- a closed way: its corners, ring of legs -/
def CycL (S : Pix) (R : List Crn) : Prop := ∃ k0 K, R = k0 :: K ∧ legs S k0 K ∧ Leg S (lastC k0 K) k0
def Closed (S : Pix) (c : List Edg) : Prop := ∃ e l, c = e :: l ∧ Path S e.1 e.2.1 (pend e.1 e.2.1 0 c).2.2 c ∧ (pend e.1 e.2.1 0 c).1 = e.1 ∧ (pend e.1 e.2.1 0 c).2.1 = e.2.1
theorem trav_self {S : Pix} {q : Crn} (h : Trav S q q.1 q.2.1) : False := by
  have := h.1
  unfold shapeE at this
  dsimp only at this
  omega
def lastD (c : List Edg) : Nat := match c.getLast? with | some e => e.2.2.2.2 | none => 0
theorem pend_dir : ∀ (l : List Edg) (x y : Int) (d : Nat) (e : Edg), (pend x y d (e :: l)).2.2 = lastD (e :: l) := by
  intro l
  induction l with
  | nil => intro x y d e; rfl
  | cons f l ih =>
    intro x y d e
    have := ih e.2.2.1 e.2.2.2.1 e.2.2.2.2 f
    unfold pend
    rw [this]
    unfold lastD
    rw [List.getLast?_cons_cons]
/-- what is summed over the pieces of a way adds up over its legs -/
def psum (f : Int → Int → Int → Int → Int) : Crn → List Crn → Int → Int → Int
  | q, [], x, y => f q.1 q.2.1 x y
  | q, k :: K, x, y => f q.1 q.2.1 k.1 k.2.1 + psum f k K x y
def wsum (f : Int → Int → Int → Int → Int) (l : List Edg) : Int := sumL (l.map fun e => f e.1 e.2.1 e.2.2.1 e.2.2.2.1)
def Adds (f : Int → Int → Int → Int → Int) : Prop := ∀ (x y x' y' x'' y'' : Int) (d : Nat), shapeE (x, y, x', y', d) → shapeE (x', y', x'', y'', d) → f x y x' y' + f x' y' x'' y'' = f x y x'' y''
theorem path_sum {S : Pix} {f : Int → Int → Int → Int → Int} (hf : Adds f) : ∀ (l : List Edg) (x y : Int) (q : Crn), Path S x y q.2.2 l → Trav S q x y →
    f q.1 q.2.1 x y + wsum f l = psum f q (corn q.2.2 l) (pend x y q.2.2 l).1 (pend x y q.2.2 l).2.1 := by
  intro l
  induction l with
  | nil => intro x y q _ ht; simp [wsum, sumL, corn, psum, pend]
  | cons e l ih =>
    intro x y q hp ht
    obtain ⟨h1, h2, h3, hs, hu, hp⟩ := hp
    unfold corn pend
    have hw : wsum f (e :: l) = f e.1 e.2.1 e.2.2.1 e.2.2.2.1 + wsum f l := rfl
    rw [hw]
    by_cases hd : q.2.2 = e.2.2.2.2
    · rw [if_pos hd]
      have hadd := hf q.1 q.2.1 x y e.2.2.1 e.2.2.2.1 q.2.2 ht.1 (by rw [← h1, ← h2, hd]; exact hs)
      rw [← hd] at hp ⊢
      have := ih _ _ q hp (ht.more h1 h2 hd.symm hs hu)
      rw [h1, h2]
      omega
    · rw [if_neg hd]
      have := ih _ _ (e.1, e.2.1, e.2.2.2.2) hp (trav_of hs hu)
      dsimp only at this
      unfold psum
      dsimp only
      rw [← this, h1, h2]
theorem psum_last {f : Int → Int → Int → Int → Int} : ∀ (K : List Crn) (q : Crn) (x y z w : Int), f (lastC q K).1 (lastC q K).2.1 x y + f x y z w = f (lastC q K).1 (lastC q K).2.1 z w → psum f q K x y + f x y z w = psum f q K z w := by
  intro K
  induction K with
  | nil => intro q x y z w h; exact h
  | cons k K ih =>
    intro q x y z w h
    have := ih k x y z w h
    unfold psum
    omega
theorem closed_ring {S : Pix} {c : List Edg} (h : Closed S c) : ∃ k0 K, corn (lastD c) c = k0 :: K ∧ legs S k0 K ∧ Leg S (lastC k0 K) k0 ∧ ∀ f, Adds f → wsum f c = psum f k0 K k0.1 k0.2.1 := by
  obtain ⟨e, l, rfl, hp, hx, hy⟩ := h
  rw [pend_dir] at hp
  obtain ⟨_, _, h3, hs, hu, hpl⟩ := hp
  have hpd := pend_dir l e.1 e.2.1 0 e
  unfold pend at hx hy hpd
  have hq := path_legs l e.2.2.1 e.2.2.2.1 (e.1, e.2.1, e.2.2.2.2) hpl (trav_of hs hu)
  have hsum := fun f (hf : Adds f) => path_sum hf l e.2.2.1 e.2.2.2.1 (e.1, e.2.1, e.2.2.2.2) hpl (trav_of hs hu)
  dsimp only at hq hsum
  rw [hx, hy, hpd] at hq
  rw [hx, hy] at hsum
  obtain ⟨g1, g2, g3⟩ := hq
  unfold corn
  by_cases hd : lastD (e :: l) = e.2.2.2.2
  · rw [if_pos hd]
    rw [hd]
    cases hK : corn e.2.2.2.2 l with
    | nil =>
      rw [hK] at g2
      exact (trav_self g2).elim
    | cons k0 K =>
      rw [hK] at g1 g2 g3 hsum
      obtain ⟨⟨m1, m2, m3⟩, m4⟩ := g1
      have g3' : (lastC k0 K).2.2 = e.2.2.2.2 := g3.trans hd
      have g2' : Trav S (lastC k0 K) e.1 e.2.1 := g2
      refine ⟨k0, K, rfl, m4, ⟨?_, ?_, ?_⟩, fun f hf => ?_⟩
      · exact g2'.more (e := (e.1, e.2.1, k0.1, k0.2.1, e.2.2.2.2)) rfl rfl g3'.symm m1.1 m1.2
      · rw [g3']; exact m2
      · rw [g3']; exact m3
      · have a1 := hsum f hf
        unfold psum at a1
        dsimp only at a1
        have a2 := psum_last (f := f) K k0 e.1 e.2.1 k0.1 k0.2.1 (hf _ _ _ _ _ _ _ (show shapeE ((lastC k0 K).1, (lastC k0 K).2.1, e.1, e.2.1, e.2.2.2.2) from by have := g2'.1; unfold legE at this; rw [g3'] at this; exact this) m1.1)
        have hw : wsum f (e :: l) = f e.1 e.2.1 e.2.2.1 e.2.2.2.1 + wsum f l := rfl
        omega
  · rw [if_neg hd]
    refine ⟨_, _, rfl, g1, ⟨?_, ?_, ?_⟩, fun f hf => ?_⟩
    · exact g2
    · rw [g3]; exact h3
    · rw [g3]; exact fun e => hd e.symm
    · exact hsum f hf
/-! by places -/
theorem legs_get {S : Pix} : ∀ (K : List Crn) (q : Crn), legs S q K → ∀ (k : Nat) (p r : Crn), (q :: K)[k]? = some p → (q :: K)[k + 1]? = some r → Leg S p r := by
  intro K
  induction K with
  | nil => intro q _ k p r _ h2; simp at h2
  | cons m K ih =>
    intro q h k p r h1 h2
    cases k with
    | zero =>
      simp at h1 h2
      subst h1; subst h2
      exact h.1
    | succ k => exact ih m h.2 k p r (by simpa using h1) (by simpa using h2)
theorem last_get : ∀ (K : List Crn) (q : Crn), (q :: K)[K.length]? = some (lastC q K) := by
  intro K
  induction K with
  | nil => intro q; rfl
  | cons m K ih => intro q; simpa [lastC] using ih m
def CycR (S : Pix) (R : List Crn) : Prop := ∀ (k : Nat) (p r : Crn), R[k]? = some p → R[(k + 1) % R.length]? = some r → Leg S p r
theorem cycR_of {S : Pix} {k0 : Crn} {K : List Crn} (h1 : legs S k0 K) (h2 : Leg S (lastC k0 K) k0) : CycR S (k0 :: K) := by
  intro k p r hp hr
  have hk := (List.getElem?_eq_some_iff.1 hp).1
  rw [List.length_cons] at hk hr
  rcases Nat.lt_or_ge k K.length with hlt | hge
  · rw [Nat.mod_eq_of_lt (by omega)] at hr
    exact legs_get K k0 h1 k p r hp hr
  · have e : k = K.length := by omega
    subst e
    rw [Nat.mod_self] at hr
    rw [last_get] at hp
    simp at hp hr
    subst hp; subst hr
    exact h2
def rot {α : Type} (t : Nat) (R : List α) : List α := R.drop t ++ R.take t
theorem rot_length {α : Type} {t : Nat} {R : List α} (h : t ≤ R.length) : (rot t R).length = R.length := by simp [rot]; omega
theorem rot_get {α : Type} {t k : Nat} {R : List α} (h : t < R.length) (hk : k < R.length) : (rot t R)[k]? = R[(k + t) % R.length]? := by
  unfold rot
  rcases Nat.lt_or_ge k (R.length - t) with hlt | hge
  · rw [List.getElem?_append_left (by simp; omega), List.getElem?_drop, Nat.mod_eq_of_lt (by omega), Nat.add_comm]
  · rw [List.getElem?_append_right (by simp; omega), List.length_drop, List.getElem?_take_of_lt (by omega)]
    congr 1
    rw [Nat.mod_eq_sub_mod (by omega), Nat.mod_eq_of_lt (by omega)]
    omega
theorem CycR.rot {S : Pix} {R : List Crn} (h : CycR S R) {t : Nat} (ht : t < R.length) : CycR S (rot t R) := by
  intro k p r hp hr
  have hk := (List.getElem?_eq_some_iff.1 hp).1
  rw [rot_length (by omega)] at hk hr
  have h1 : (k + 1) % R.length < R.length := Nat.mod_lt _ (by omega)
  rw [rot_get ht hk] at hp
  rw [rot_get ht h1] at hr
  refine h _ p r hp ?_
  rw [← hr]
  congr 1
  rw [Nat.mod_add_mod, Nat.mod_add_mod]
  congr 1
  omega
/-- the sum over the first k legs of a ring -/
def cycTo (f : Int → Int → Int → Int → Int) (R : List Crn) : Nat → Int
  | 0 => 0
  | k + 1 => cycTo f R k + f (R.getD k (0, 0, 0)).1 (R.getD k (0, 0, 0)).2.1 (R.getD ((k + 1) % R.length) (0, 0, 0)).1 (R.getD ((k + 1) % R.length) (0, 0, 0)).2.1
theorem cycTo_succ {f : Int → Int → Int → Int → Int} {R : List Crn} {k : Nat} {p r : Crn} (hp : R[k]? = some p) (hr : R[(k + 1) % R.length]? = some r) : cycTo f R (k + 1) = cycTo f R k + f p.1 p.2.1 r.1 r.2.1 := by
  rw [show cycTo f R (k + 1) = cycTo f R k + f (R.getD k (0, 0, 0)).1 (R.getD k (0, 0, 0)).2.1 (R.getD ((k + 1) % R.length) (0, 0, 0)).1 (R.getD ((k + 1) % R.length) (0, 0, 0)).2.1 from rfl]
  rw [List.getD_eq_getElem?_getD, List.getD_eq_getElem?_getD, hp, hr]
  rfl
theorem psum_append {f : Int → Int → Int → Int → Int} : ∀ (A : List Crn) (a b : Crn) (B : List Crn) (x y : Int), psum f a (A ++ b :: B) x y = psum f a A b.1 b.2.1 + psum f b B x y := by
  intro A
  induction A with
  | nil => intro a b B x y; rfl
  | cons k A ih =>
    intro a b B x y
    have := ih k b B x y
    show f _ _ _ _ + psum f k (A ++ b :: B) x y = (f _ _ _ _ + psum f k A b.1 b.2.1) + psum f b B x y
    omega
theorem psum_rot {f : Int → Int → Int → Int → Int} {k0 m0 : Crn} {K M : List Crn} {t : Nat} (ht : t < (k0 :: K).length) (h : rot t (k0 :: K) = m0 :: M) : psum f m0 M m0.1 m0.2.1 = psum f k0 K k0.1 k0.2.1 := by
  cases t with
  | zero =>
    simp [rot] at h
    obtain ⟨rfl, rfl⟩ := h
    rfl
  | succ t =>
    simp only [rot, List.drop_succ_cons, List.take_succ_cons] at h
    simp only [List.length_cons] at ht
    obtain ⟨b, B, hB⟩ : ∃ b B, K.drop t = b :: B := by
      cases hq : K.drop t with
      | nil => have := congrArg List.length hq; simp at this; omega
      | cons b B => exact ⟨b, B, rfl⟩
    rw [hB, List.cons_append] at h
    injection h with e1 e2
    subst e1; subst e2
    have eK : K = K.take t ++ b :: B := by rw [← hB, List.take_append_drop]
    rw [psum_append]
    conv => rhs; rw [eK, psum_append]
    omega
theorem cycTo_psum {f : Int → Int → Int → Int → Int} {k0 : Crn} {K : List Crn} : cycTo f (k0 :: K) (k0 :: K).length = psum f k0 K k0.1 k0.2.1 := by
  have key : ∀ (M K : List Crn) (q : Crn) (A : List Crn), k0 :: K = A ++ q :: M → cycTo f (k0 :: K) A.length + psum f q M k0.1 k0.2.1 = cycTo f (k0 :: K) (k0 :: K).length := by
    intro M
    induction M with
    | nil =>
      intro K q A h
      have hl : (k0 :: K).length = A.length + 1 := by rw [h]; simp
      rw [hl]
      rw [cycTo_succ (p := q) (r := k0) (by rw [h, List.getElem?_append_right (Nat.le_refl _), Nat.sub_self]; rfl) (by rw [hl, Nat.mod_self]; rfl)]
      rfl
    | cons m M ih =>
      intro K q A h
      have hl : (k0 :: K).length = A.length + M.length + 2 := by rw [h]; simp; omega
      have hs := cycTo_succ (f := f) (R := k0 :: K) (k := A.length) (p := q) (r := m) (by rw [h, List.getElem?_append_right (Nat.le_refl _), Nat.sub_self]; rfl)
        (by rw [Nat.mod_eq_of_lt (by omega), h, List.getElem?_append_right (by omega), Nat.add_sub_cancel_left]; rfl)
      have := ih K m (A ++ [q]) (by rw [h]; simp)
      rw [← this]
      have e : (A ++ [q]).length = A.length + 1 := by simp
      rw [e, hs]
      have e2 : psum f q (m :: M) k0.1 k0.2.1 = f q.1 q.2.1 m.1 m.2.1 + psum f m M k0.1 k0.2.1 := rfl
      omega
  have := key K K k0 [] rfl
  simp only [List.length_nil] at this
  have h0 : cycTo f (k0 :: K) 0 = 0 := rfl
  rw [← this, h0]
  omega
end Go.Reg

/- Outlines: the program's edges are the boundary of the pixels, each unit once. Plain law: no walk stands here. -/
set_option linter.unusedVariables false
set_option linter.unusedSimpArgs false
namespace Go.Reg
open Go.Proofs.YtkjpcjmbhpfelaaGreat

/-- the parts of an interval that no rectangle of l covers -/
def unc (x1 : Int) : Int → List R4 → List (Int × Int)
  | x0, [] => if x0 < x1 then [(x0, x1)] else []
  | x0, r :: l => if r.2.2.1 ≤ x0 ∨ x1 ≤ r.1 then unc x1 x0 l else (if x0 < r.1 then [(x0, r.1)] else []) ++ unc x1 r.2.2.1 l
theorem unc_length {x1 : Int} : ∀ (l : List R4) (x0 : Int), (unc x1 x0 l).length ≤ l.length + 1 := by
  intro l
  induction l with
  | nil => intro x0; unfold unc; split <;> simp
  | cons r l ih =>
    intro x0
    unfold unc
    have h1 := ih x0
    have h2 := ih r.2.2.1
    split
    · simp; omega
    · split <;> simp <;> omega
theorem unc_in {x1 : Int} : ∀ (l : List R4) (x0 : Int), l.Pairwise (fun r s => r.2.2.1 < s.1) → (∀ r ∈ l, r.1 < r.2.2.1) → ∀ p ∈ unc x1 x0 l, x0 ≤ p.1 ∧ p.1 < p.2 ∧ p.2 ≤ x1 ∧ ∀ r ∈ l, r.2.2.1 ≤ p.1 ∨ p.2 ≤ r.1 := by
  intro l
  induction l with
  | nil =>
    intro x0 _ _ p hp
    unfold unc at hp
    split at hp
    · simp at hp; subst hp; exact ⟨by dsimp only; omega, by assumption, by dsimp only; omega, fun r h => (List.not_mem_nil h).elim⟩
    · cases hp
  | cons r l ih =>
    intro x0 hs hw p hp
    obtain ⟨s1, s2⟩ := List.pairwise_cons.1 hs
    have hw' := fun s (h : s ∈ l) => hw s (List.mem_cons_of_mem _ h)
    have hr := hw r List.mem_cons_self
    unfold unc at hp
    split at hp
    · rename_i hk
      obtain ⟨a1, a2, a3, a4⟩ := ih x0 s2 hw' p hp
      refine ⟨a1, a2, a3, fun s hm => ?_⟩
      rcases List.mem_cons.1 hm with rfl | hm
      · omega
      · exact a4 s hm
    · rename_i hk
      rcases List.mem_append.1 hp with hp | hp
      · split at hp
        · simp at hp
          subst hp
          refine ⟨by dsimp only; omega, by assumption, by dsimp only; omega, fun s hm => ?_⟩
          rcases List.mem_cons.1 hm with rfl | hm
          · dsimp only; omega
          · have := s1 s hm; dsimp only; omega
        · cases hp
      · obtain ⟨a1, a2, a3, a4⟩ := ih r.2.2.1 s2 hw' p hp
        refine ⟨by omega, a2, a3, fun s hm => ?_⟩
        rcases List.mem_cons.1 hm with rfl | hm
        · omega
        · exact a4 s hm
theorem unc_cover {x1 : Int} : ∀ (l : List R4) (x0 : Int), ∀ x, x0 ≤ x → x < x1 → (∀ r ∈ l, ¬ (r.1 ≤ x ∧ x < r.2.2.1)) → ∃ p ∈ unc x1 x0 l, p.1 ≤ x ∧ x < p.2 := by
  intro l
  induction l with
  | nil =>
    intro x0 x h1 h2 _
    unfold unc
    rw [if_pos (by omega)]
    exact ⟨_, List.mem_singleton.2 rfl, h1, h2⟩
  | cons r l ih =>
    intro x0 x h1 h2 h
    have hr := h r List.mem_cons_self
    have h' := fun s (k : s ∈ l) => h s (List.mem_cons_of_mem _ k)
    unfold unc
    split
    · exact ih x0 x h1 h2 h'
    · rcases Int.lt_or_le x r.1 with k | k
      · rw [if_pos (by omega)]
        exact ⟨(x0, r.1), by simp, h1, k⟩
      · obtain ⟨p, hp, h3⟩ := ih r.2.2.1 x (by omega) h2 h'
        exact ⟨p, List.mem_append_right _ hp, h3⟩
theorem unc_apart {x1 : Int} : ∀ (l : List R4) (x0 : Int), l.Pairwise (fun r s => r.2.2.1 < s.1) → (∀ r ∈ l, r.1 < r.2.2.1) → (unc x1 x0 l).Pairwise fun p q => p.2 ≤ q.1 := by
  intro l
  induction l with
  | nil => intro x0 _ _; unfold unc; split <;> simp
  | cons r l ih =>
    intro x0 hs hw
    obtain ⟨s1, s2⟩ := List.pairwise_cons.1 hs
    have hw' := fun s (h : s ∈ l) => hw s (List.mem_cons_of_mem _ h)
    have hr := hw r List.mem_cons_self
    unfold unc
    split
    · exact ih x0 s2 hw'
    · refine List.pairwise_append.2 ⟨by split <;> simp, ih _ s2 hw', fun p hp q hq => ?_⟩
      split at hp
      · simp at hp
        subst hp
        have := (unc_in l r.2.2.1 s2 hw' q hq).1
        dsimp only
        omega
      · cases hp
def aboveL (L : List R4) (y : Int) : List R4 := L.filter fun s => decide (s.2.2.2 = y)
def belowL (L : List R4) (y : Int) : List R4 := L.filter fun s => decide (s.2.1 = y)
def topE (L : List R4) (r : R4) : List Edg := (unc r.2.2.1 r.1 (aboveL L r.2.1)).map fun p => (p.1, r.2.1, p.2, r.2.1, 0)
def botE (L : List R4) (r : R4) : List Edg := (unc r.2.2.1 r.1 (belowL L r.2.2.2)).map fun p => (p.2, r.2.2.2, p.1, r.2.2.2, 2)
def downE (r : R4) : Edg := (r.2.2.1, r.2.1, r.2.2.1, r.2.2.2, 1)
def upE (r : R4) : Edg := (r.1, r.2.2.2, r.1, r.2.1, 3)
def rectE4 (L : List R4) (r : R4) : List Edg := topE L r ++ downE r :: (botE L r ++ [upE r])
def edgesOf (L : List R4) : List Edg := L.flatMap (rectE4 L)
theorem mem_rectE4 {L : List R4} {r : R4} {e : Edg} (h : e ∈ rectE4 L r) : (∃ p ∈ unc r.2.2.1 r.1 (aboveL L r.2.1), e = (p.1, r.2.1, p.2, r.2.1, 0)) ∨ e = downE r ∨ (∃ p ∈ unc r.2.2.1 r.1 (belowL L r.2.2.2), e = (p.2, r.2.2.2, p.1, r.2.2.2, 2)) ∨ e = upE r := by
  unfold rectE4 at h
  rcases List.mem_append.1 h with h | h
  · obtain ⟨p, hp, rfl⟩ := List.mem_map.1 h; exact .inl ⟨p, hp, rfl⟩
  · rcases List.mem_cons.1 h with h | h
    · exact .inr (.inl h)
    · rcases List.mem_append.1 h with h | h
      · obtain ⟨p, hp, rfl⟩ := List.mem_map.1 h; exact .inr (.inr (.inl ⟨p, hp, rfl⟩))
      · exact .inr (.inr (.inr (List.mem_singleton.1 h)))
/-- rectangles of one band are in order -/
theorem RegionOf.ordered {S : Pix} {L : List R4} (h : RegionOf S L) (hw : InWin S) : L.Pairwise (fun r s => (r.2.2.2 = s.2.2.2 → r.2.2.1 < s.1) ∧ (r.2.1 = s.2.1 → r.2.2.1 < s.1)) := by
  obtain ⟨B, h1, h2, rfl⟩ := h
  have e : inB B = S := funext fun x => funext fun y => h2 x y
  have hb := h1.win (by rw [e]; exact hw)
  have ho := OKB.ord h1.1
  unfold rectsB
  rw [List.pairwise_flatMap]
  refine ⟨fun b hbm => ?_, ?_⟩
  · rw [List.pairwise_map]
    exact (OKR.iff.1 (h1.2 b hbm)).1.imp fun {p q} hpq => ⟨fun _ => hpq, fun _ => hpq⟩
  · refine List.Pairwise.imp_of_mem (fun {b c} hbm hcm hbc r hr s hs => ?_) ho.1
    obtain ⟨p, hp, rfl⟩ := List.mem_map.1 hr
    obtain ⟨q, hq, rfl⟩ := List.mem_map.1 hs
    have k1 := (hb b hbm).1
    have k2 := (hb c hcm).1
    exact ⟨fun e => by dsimp only at e; omega, fun e => by dsimp only at e; omega⟩
theorem above_ok {S : Pix} {L : List R4} (h : RegionOf S L) (hw : InWin S) (y : Int) : (aboveL L y).Pairwise (fun r s => r.2.2.1 < s.1) ∧ ∀ r ∈ aboveL L y, r.1 < r.2.2.1 := by
  refine ⟨?_, fun r hr => ?_⟩
  · refine List.Pairwise.imp_of_mem (fun {a b} ha hb hab => ?_) ((h.ordered hw).filter _)
    have h1 := (List.mem_filter.1 ha).2
    have h2 := (List.mem_filter.1 hb).2
    simp at h1 h2
    exact hab.1 (by rw [h1, h2])
  · have := empty_false ((h.geo hw).full r (List.mem_filter.1 hr).1)
    omega
theorem below_ok {S : Pix} {L : List R4} (h : RegionOf S L) (hw : InWin S) (y : Int) : (belowL L y).Pairwise (fun r s => r.2.2.1 < s.1) ∧ ∀ r ∈ belowL L y, r.1 < r.2.2.1 := by
  refine ⟨?_, fun r hr => ?_⟩
  · refine List.Pairwise.imp_of_mem (fun {a b} ha hb hab => ?_) ((h.ordered hw).filter _)
    have h1 := (List.mem_filter.1 ha).2
    have h2 := (List.mem_filter.1 hb).2
    simp at h1 h2
    exact hab.2 (by rw [h1, h2])
  · have := empty_false ((h.geo hw).full r (List.mem_filter.1 hr).1)
    omega
/-- the pixel to which a unit edge belongs -/
def ownX (d : Nat) (x : Int) : Int := if d = 1 ∨ d = 2 then x - 1 else x
def ownY (d : Nat) (y : Int) : Int := if d = 2 ∨ d = 3 then y - 1 else y
theorem rect_own {S : Pix} {L : List R4} (h : RegionOf S L) (hw : InWin S) {r : R4} (hr : r ∈ L) {e : Edg} (he : e ∈ rectE4 L r) {d : Nat} {x y : Int} (hc : covE e d x y) : hasR r (ownX d x) (ownY d y) = true := by
  have hf := (h.geo hw).full r hr
  have hb := empty_false hf
  obtain ⟨a1, a2⟩ := above_ok h hw r.2.1
  obtain ⟨b1, b2⟩ := below_ok h hw r.2.2.2
  rcases mem_rectE4 he with ⟨p, hp, rfl⟩ | rfl | ⟨p, hp, rfl⟩ | rfl
  · have := unc_in _ _ a1 a2 p hp
    obtain ⟨rfl, hc⟩ := hc
    dsimp only at hc
    refine hasR_iff.2 ⟨hf, ?_⟩
    rw [show ownX 0 x = x from rfl, show ownY 0 y = y from rfl]
    omega
  · obtain ⟨rfl, hc⟩ := hc
    simp only [downE] at hc ⊢
    refine hasR_iff.2 ⟨hf, ?_⟩
    rw [show ownX 1 x = x - 1 from rfl, show ownY 1 y = y from rfl]
    omega
  · have := unc_in _ _ b1 b2 p hp
    obtain ⟨rfl, hc⟩ := hc
    dsimp only at hc
    refine hasR_iff.2 ⟨hf, ?_⟩
    rw [show ownX 2 x = x - 1 from rfl, show ownY 2 y = y - 1 from rfl]
    omega
  · obtain ⟨rfl, hc⟩ := hc
    simp only [upE] at hc ⊢
    refine hasR_iff.2 ⟨hf, ?_⟩
    rw [show ownX 3 x = x from rfl, show ownY 3 y = y - 1 from rfl]
    omega
theorem outB_iff {S : Pix} {x y : Int} : (outB S 0 x y = true ↔ S x y = true ∧ S x (y - 1) = false) ∧ (outB S 1 x y = true ↔ S (x - 1) y = true ∧ S x y = false) ∧
    (outB S 2 x y = true ↔ S (x - 1) (y - 1) = true ∧ S (x - 1) y = false) ∧ (outB S 3 x y = true ↔ S x (y - 1) = true ∧ S (x - 1) (y - 1) = false) := by
  unfold outB outQ
  simp
theorem Geo.same {S : Pix} {L : List R4} (h : Geo S L) {r s : R4} (hr : r ∈ L) (hs : s ∈ L) {x y : Int} (h1 : hasR r x y = true) (h2 : hasR s x y = true) : r = s := by
  obtain ⟨i, hi⟩ := List.mem_iff_getElem?.1 hr
  obtain ⟨j, hj⟩ := List.mem_iff_getElem?.1 hs
  have := h.idx hi hj h1 h2
  subst this
  rw [hi] at hj
  injection hj
theorem Geo.findR {S : Pix} {L : List R4} (h : Geo S L) {x y : Int} (hS : S x y = true) : ∃ r ∈ L, hasR r x y = true := by
  obtain ⟨i, r, h1, h2⟩ := h.find hS
  exact ⟨r, List.mem_of_getElem? h1, h2⟩
theorem rect_unit {S : Pix} {L : List R4} (h : RegionOf S L) (hw : InWin S) {r : R4} (hr : r ∈ L) {e : Edg} (he : e ∈ rectE4 L r) : unitE S e := by
  intro d x y hc
  have hg := h.geo hw
  have ho := rect_own h hw hr he hc
  have hf := hg.full r hr
  have hb := empty_false hf
  obtain ⟨a1, a2⟩ := above_ok h hw r.2.1
  obtain ⟨b1, b2⟩ := below_ok h hw r.2.2.2
  obtain ⟨o0, o1, o2, o3⟩ := outB_iff (S := S) (x := x) (y := y)
  rcases mem_rectE4 he with ⟨p, hp, rfl⟩ | rfl | ⟨p, hp, rfl⟩ | rfl
  · obtain ⟨k1, k2, k3, k4⟩ := unc_in _ _ a1 a2 p hp
    obtain ⟨rfl, hc⟩ := hc
    dsimp only at hc ho
    simp only [ownX, ownY] at ho
    refine o0.2 ⟨hg.sub hr _ _ ho, ?_⟩
    rw [Bool.eq_false_iff]
    intro hs
    obtain ⟨s, hs, hh⟩ := hg.findR hs
    obtain ⟨m0, m1, m2, m3, m4⟩ := hasR_iff.1 hh
    have hy : s.2.2.2 = r.2.1 := by
      by_cases e : y < s.2.2.2
      · have := hg.same hr hs ho (hasR_iff.2 ⟨m0, m1, m2, by omega, e⟩)
        subst this
        omega
      · omega
    have := k4 s (List.mem_filter.2 ⟨hs, by simpa using hy⟩)
    omega
  · obtain ⟨rfl, hc⟩ := hc
    simp only [downE] at hc ho
    simp only [ownX, ownY] at ho
    refine o1.2 ⟨hg.sub hr _ _ (by simpa using ho), ?_⟩
    rw [Bool.eq_false_iff]
    intro hs
    obtain ⟨s, hs, hh⟩ := hg.findR hs
    have := hg.side r hr s hs (x - 1) y (by simpa using ho) (by rw [Int.sub_add_cancel]; exact hh)
    have := (hasR_iff.1 this).2.2.1
    omega
  · obtain ⟨k1, k2, k3, k4⟩ := unc_in _ _ b1 b2 p hp
    obtain ⟨rfl, hc⟩ := hc
    dsimp only at hc ho
    simp only [ownX, ownY] at ho
    have ho' : hasR r (x - 1) (y - 1) = true := by simpa using ho
    refine o2.2 ⟨hg.sub hr _ _ ho', ?_⟩
    rw [Bool.eq_false_iff]
    intro hs
    obtain ⟨s, hs, hh⟩ := hg.findR hs
    obtain ⟨m0, m1, m2, m3, m4⟩ := hasR_iff.1 hh
    have hy : s.2.1 = r.2.2.2 := by
      by_cases e : s.2.1 ≤ y - 1
      · have := hg.same hr hs ho' (hasR_iff.2 ⟨m0, m1, m2, e, by omega⟩)
        subst this
        omega
      · omega
    have := k4 s (List.mem_filter.2 ⟨hs, by simpa using hy⟩)
    omega
  · obtain ⟨rfl, hc⟩ := hc
    simp only [upE] at hc ho
    simp only [ownX, ownY] at ho
    have ho' : hasR r x (y - 1) = true := by simpa using ho
    refine o3.2 ⟨hg.sub hr _ _ ho', ?_⟩
    rw [Bool.eq_false_iff]
    intro hs
    obtain ⟨s, hs, hh⟩ := hg.findR hs
    have h1 := hg.side s hs r hr (x - 1) (y - 1) hh (by rw [Int.sub_add_cancel]; exact ho')
    rw [Int.sub_add_cancel] at h1
    have := hg.same hr hs ho' h1
    subst this
    have := (hasR_iff.1 hh).2.1
    omega
theorem rect_shape {S : Pix} {L : List R4} (h : RegionOf S L) (hw : InWin S) {r : R4} (hr : r ∈ L) {e : Edg} (he : e ∈ rectE4 L r) : shapeE e := by
  have hb := empty_false ((h.geo hw).full r hr)
  obtain ⟨a1, a2⟩ := above_ok h hw r.2.1
  obtain ⟨b1, b2⟩ := below_ok h hw r.2.2.2
  rcases mem_rectE4 he with ⟨p, hp, rfl⟩ | rfl | ⟨p, hp, rfl⟩ | rfl
  · have := unc_in _ _ a1 a2 p hp
    unfold shapeE; dsimp only; omega
  · unfold shapeE downE; dsimp only; omega
  · have := unc_in _ _ b1 b2 p hp
    unfold shapeE; dsimp only; omega
  · unfold shapeE upE; dsimp only; omega
theorem edges_sys {S : Pix} {L : List R4} (h : RegionOf S L) (hw : InWin S) : EdgeSys S (edgesOf L) := by
  have hg := h.geo hw
  have un : ∀ e ∈ edgesOf L, ∃ r ∈ L, e ∈ rectE4 L r := fun e he => List.mem_flatMap.1 he
  refine ⟨fun e he => ?_, fun e he => ?_, fun d x y hd ho => ?_, ?_⟩
  · obtain ⟨r, hr, he⟩ := un e he; exact rect_shape h hw hr he
  · obtain ⟨r, hr, he⟩ := un e he; exact rect_unit h hw hr he
  · have fin : ∀ (r : R4) (e : Edg), r ∈ L → e ∈ rectE4 L r → covE e d x y → ∃ (i : Nat) (e : Edg), (edgesOf L)[i]? = some e ∧ covE e d x y := fun r e hr he hc => by
      obtain ⟨i, hi⟩ := List.mem_iff_getElem?.1 (List.mem_flatMap.2 ⟨r, hr, he⟩ : e ∈ edgesOf L)
      exact ⟨i, e, hi, hc⟩
    obtain ⟨o0, o1, o2, o3⟩ := outB_iff (S := S) (x := x) (y := y)
    rcases (show d = 0 ∨ d = 1 ∨ d = 2 ∨ d = 3 by omega) with rfl | rfl | rfl | rfl
    · obtain ⟨k1, k2⟩ := o0.1 ho
      obtain ⟨r, hr, hh⟩ := hg.findR k1
      obtain ⟨m0, m1, m2, m3, m4⟩ := hasR_iff.1 hh
      have hy : r.2.1 = y := by
        by_cases e : r.2.1 ≤ y - 1
        · have := hg.sub hr x (y - 1) (hasR_iff.2 ⟨m0, m1, m2, e, by omega⟩)
          rw [this] at k2; cases k2
        · omega
      obtain ⟨p, hp, p1, p2⟩ := unc_cover (x1 := r.2.2.1) (aboveL L r.2.1) r.1 x m1 m2 fun s hs ⟨s1, s2⟩ => by
        obtain ⟨hs, hy2⟩ := List.mem_filter.1 hs
        simp at hy2
        have hb := empty_false (hg.full s hs)
        have := hg.sub hs x (y - 1) (hasR_iff.2 ⟨hg.full s hs, s1, s2, by omega, by omega⟩)
        rw [this] at k2; cases k2
      refine fin r _ hr (List.mem_append_left _ (List.mem_map.2 ⟨p, hp, rfl⟩)) ⟨rfl, ?_⟩
      dsimp only; omega
    · obtain ⟨k1, k2⟩ := o1.1 ho
      obtain ⟨r, hr, hh⟩ := hg.findR k1
      obtain ⟨m0, m1, m2, m3, m4⟩ := hasR_iff.1 hh
      have hx : r.2.2.1 = x := by
        by_cases e : x < r.2.2.1
        · have := hg.sub hr x y (hasR_iff.2 ⟨m0, by omega, e, m3, m4⟩)
          rw [this] at k2; cases k2
        · omega
      refine fin r (downE r) hr (List.mem_append_right _ List.mem_cons_self) ⟨rfl, ?_⟩
      unfold downE; dsimp only; omega
    · obtain ⟨k1, k2⟩ := o2.1 ho
      obtain ⟨r, hr, hh⟩ := hg.findR k1
      obtain ⟨m0, m1, m2, m3, m4⟩ := hasR_iff.1 hh
      have hy : r.2.2.2 = y := by
        by_cases e : y < r.2.2.2
        · have := hg.sub hr (x - 1) y (hasR_iff.2 ⟨m0, m1, m2, by omega, e⟩)
          rw [this] at k2; cases k2
        · omega
      obtain ⟨p, hp, p1, p2⟩ := unc_cover (x1 := r.2.2.1) (belowL L r.2.2.2) r.1 (x - 1) m1 m2 fun s hs ⟨s1, s2⟩ => by
        obtain ⟨hs, hy2⟩ := List.mem_filter.1 hs
        simp at hy2
        have hb := empty_false (hg.full s hs)
        have := hg.sub hs (x - 1) y (hasR_iff.2 ⟨hg.full s hs, s1, s2, by omega, by omega⟩)
        rw [this] at k2; cases k2
      refine fin r _ hr (List.mem_append_right _ (List.mem_cons_of_mem _ (List.mem_append_left _ (List.mem_map.2 ⟨p, hp, rfl⟩)))) ⟨rfl, ?_⟩
      dsimp only; omega
    · obtain ⟨k1, k2⟩ := o3.1 ho
      obtain ⟨r, hr, hh⟩ := hg.findR k1
      obtain ⟨m0, m1, m2, m3, m4⟩ := hasR_iff.1 hh
      have hx : r.1 = x := by
        by_cases e : r.1 ≤ x - 1
        · have := hg.sub hr (x - 1) (y - 1) (hasR_iff.2 ⟨m0, e, by omega, m3, m4⟩)
          rw [this] at k2; cases k2
        · omega
      refine fin r (upE r) hr (List.mem_append_right _ (List.mem_cons_of_mem _ (List.mem_append_right _ (List.mem_singleton.2 rfl)))) ⟨rfl, ?_⟩
      unfold upE; dsimp only; omega
  · have hpw : (edgesOf L).Pairwise fun e f => ∀ d x y, covE e d x y → covE f d x y → False := by
      unfold edgesOf
      rw [List.pairwise_flatMap]
      refine ⟨fun r hr => ?_, ?_⟩
      · obtain ⟨a1, a2⟩ := above_ok h hw r.2.1
        obtain ⟨b1, b2⟩ := below_ok h hw r.2.2.2
        unfold rectE4 topE botE
        refine List.pairwise_append.2 ⟨?_, List.pairwise_cons.2 ⟨fun f hf d x y h1 h2 => ?_, List.pairwise_append.2 ⟨?_, by simp, fun e he f hf d x y h1 h2 => ?_⟩⟩, fun e he f hf d x y h1 h2 => ?_⟩
        · rw [List.pairwise_map]
          exact (unc_apart _ r.1 a1 a2).imp fun {p q} hpq d x y h1 h2 => by
            unfold covE at h1 h2; dsimp only at h1 h2; omega
        · have hd := h1.1
          have hd2 := h2.1
          rcases List.mem_append.1 hf with hf | hf
          · obtain ⟨p, _, rfl⟩ := List.mem_map.1 hf
            simp only [downE] at hd; dsimp only at hd2; omega
          · rw [List.mem_singleton.1 hf] at hd2
            simp only [downE] at hd; simp only [upE] at hd2; omega
        · rw [List.pairwise_map]
          exact (unc_apart _ r.1 b1 b2).imp fun {p q} hpq d x y h1 h2 => by
            unfold covE at h1 h2; dsimp only at h1 h2; omega
        · have hd := h1.1
          have hd2 := h2.1
          obtain ⟨p, _, rfl⟩ := List.mem_map.1 he
          rw [List.mem_singleton.1 hf] at hd2
          dsimp only at hd; simp only [upE] at hd2; omega
        · have hd := h1.1
          have hd2 := h2.1
          obtain ⟨p, _, rfl⟩ := List.mem_map.1 he
          dsimp only at hd
          rcases List.mem_cons.1 hf with rfl | hf
          · simp only [downE] at hd2; omega
          · rcases List.mem_append.1 hf with hf | hf
            · obtain ⟨p, _, rfl⟩ := List.mem_map.1 hf
              dsimp only at hd2; omega
            · rw [List.mem_singleton.1 hf] at hd2
              simp only [upE] at hd2; omega
      · refine List.Pairwise.imp_of_mem (fun {r s} hr hs hrs e he f hf d x y h1 h2 => ?_) hg.apart
        exact hrs _ _ (rect_own h hw hr he h1) (rect_own h hw hs hf h2)
    intro i j e f d x y hi hj he hf
    obtain ⟨ki, ei⟩ := List.getElem?_eq_some_iff.1 hi
    obtain ⟨kj, ej⟩ := List.getElem?_eq_some_iff.1 hj
    have hp := List.pairwise_iff_getElem.1 hpw
    rcases Nat.lt_trichotomy i j with k | k | k
    · exact (hp i j ki kj k d x y (by rw [ei]; exact he) (by rw [ej]; exact hf)).elim
    · exact k
    · exact (hp j i kj ki k d x y (by rw [ej]; exact hf) (by rw [ei]; exact he)).elim
end Go.Reg
