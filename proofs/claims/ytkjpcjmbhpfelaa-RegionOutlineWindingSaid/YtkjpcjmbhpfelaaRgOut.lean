/- Outlines: boundary edges of a set of pixels, cycles of them, rings. Plain law: no program stands here. -/
import Derived.Test.YtkjpcjmbhpfelaaRgComp
set_option linter.unusedVariables false
set_option linter.unusedSimpArgs false
namespace Go.Reg
open Go.Proofs.Ytkjpcjmbhpfelaa

/-! the four pixels around a point: which unit edges leave it, which come in (0 right, 1 down, 2 left, 3 up) -/
def outQ (nw ne sw se : Bool) : Nat → Bool
  | 0 => se && !ne
  | 1 => sw && !se
  | 2 => nw && !sw
  | _ => ne && !nw
def inQ (nw ne sw se : Bool) : Nat → Bool
  | 0 => sw && !nw
  | 1 => nw && !ne
  | 2 => ne && !se
  | _ => se && !sw
def turnQ (nw ne sw se : Bool) (d : Nat) : Nat := if outQ nw ne sw se ((d + 1) % 4) then (d + 1) % 4 else if outQ nw ne sw se d then d else (d + 3) % 4
theorem turnQ_out : ∀ nw ne sw se, ∀ d, d < 4 → inQ nw ne sw se d = true → outQ nw ne sw se (turnQ nw ne sw se d) = true ∧ turnQ nw ne sw se d ≠ (d + 2) % 4 ∧ turnQ nw ne sw se d < 4 := by decide
theorem turnQ_inj : ∀ nw ne sw se, ∀ d, d < 4 → ∀ e, e < 4 → inQ nw ne sw se d = true → inQ nw ne sw se e = true → turnQ nw ne sw se d = turnQ nw ne sw se e → d = e := by decide
theorem turnQ_only : ∀ nw ne sw se, ∀ d, d < 4 → ∀ e, e < 4 → inQ nw ne sw se d = true → outQ nw ne sw se ((d + 1) % 4) = false → outQ nw ne sw se e = true → e = turnQ nw ne sw se d := by decide
theorem turnQ_str1 : ∀ nw ne sw se, ∀ d, d < 4 → ∀ e, e < 4 → inQ nw ne sw se d = true → outQ nw ne sw se d = true → outQ nw ne sw se e = true → e = d := by decide
theorem turnQ_str2 : ∀ nw ne sw se, ∀ d, d < 4 → ∀ e, e < 4 → inQ nw ne sw se d = true → outQ nw ne sw se d = true → inQ nw ne sw se e = true → e = d := by decide
abbrev Pix := Int → Int → Bool
def outB (S : Pix) (d : Nat) (x y : Int) : Bool := outQ (S (x - 1) (y - 1)) (S x (y - 1)) (S (x - 1) y) (S x y) d
def inB' (S : Pix) (d : Nat) (x y : Int) : Bool := inQ (S (x - 1) (y - 1)) (S x (y - 1)) (S (x - 1) y) (S x y) d
def turnS (S : Pix) (d : Nat) (x y : Int) : Nat := turnQ (S (x - 1) (y - 1)) (S x (y - 1)) (S (x - 1) y) (S x y) d
theorem in_step (S : Pix) (x y : Int) : inB' S 0 x y = outB S 0 (x - 1) y ∧ inB' S 1 x y = outB S 1 x (y - 1) ∧ inB' S 2 x y = outB S 2 (x + 1) y ∧ inB' S 3 x y = outB S 3 x (y + 1) := by
  unfold inB' outB inQ outQ
  rw [Int.add_sub_cancel, Int.add_sub_cancel]
  exact ⟨rfl, rfl, rfl, rfl⟩

/-! straight pieces of boundary: from, to, direction -/
abbrev Edg := Int × Int × Int × Int × Nat
def shapeE (e : Edg) : Prop :=
  e.2.2.2.2 = 0 ∧ e.2.2.2.1 = e.2.1 ∧ e.1 < e.2.2.1 ∨ e.2.2.2.2 = 1 ∧ e.2.2.1 = e.1 ∧ e.2.1 < e.2.2.2.1 ∨
  e.2.2.2.2 = 2 ∧ e.2.2.2.1 = e.2.1 ∧ e.2.2.1 < e.1 ∨ e.2.2.2.2 = 3 ∧ e.2.2.1 = e.1 ∧ e.2.2.2.1 < e.2.1
/-- the unit edge of direction d that leaves (x, y) is a part of e -/
def covE (e : Edg) (d : Nat) (x y : Int) : Prop :=
  e.2.2.2.2 = d ∧ (d = 0 ∧ y = e.2.1 ∧ e.1 ≤ x ∧ x < e.2.2.1 ∨ d = 1 ∧ x = e.1 ∧ e.2.1 ≤ y ∧ y < e.2.2.2.1 ∨
  d = 2 ∧ y = e.2.1 ∧ e.2.2.1 < x ∧ x ≤ e.1 ∨ d = 3 ∧ x = e.1 ∧ e.2.2.2.1 < y ∧ y ≤ e.2.1)
def unitE (S : Pix) (e : Edg) : Prop := ∀ d x y, covE e d x y → outB S d x y = true
structure EdgeSys (S : Pix) (E : List Edg) : Prop where
  shape : ∀ e ∈ E, shapeE e
  unit : ∀ e ∈ E, unitE S e
  cover : ∀ d x y, d < 4 → outB S d x y = true → ∃ (i : Nat) (e : Edg), E[i]? = some e ∧ covE e d x y
  uniq : ∀ (i j : Nat) (e f : Edg) (d : Nat) (x y : Int), E[i]? = some e → E[j]? = some f → covE e d x y → covE f d x y → i = j
theorem shape_dir {e : Edg} (h : shapeE e) : e.2.2.2.2 < 4 := by
  unfold shapeE at h; omega
/-- a piece covers the unit edge at its beginning, and one that ends at its end -/
theorem cov_from {e : Edg} (h : shapeE e) : covE e e.2.2.2.2 e.1 e.2.1 := by
  unfold shapeE at h; unfold covE; omega
theorem in_to {S : Pix} {e : Edg} (h : shapeE e) (hu : unitE S e) : inB' S e.2.2.2.2 e.2.2.1 e.2.2.2.1 = true := by
  obtain ⟨h0, h1, h2, h3⟩ := in_step S e.2.2.1 e.2.2.2.1
  rcases h with ⟨k, _, _⟩ | ⟨k, _, _⟩ | ⟨k, _, _⟩ | ⟨k, _, _⟩
  · rw [k, h0]; exact hu _ _ _ ⟨k, by omega⟩
  · rw [k, h1]; exact hu _ _ _ ⟨k, by omega⟩
  · rw [k, h2]; exact hu _ _ _ ⟨k, by omega⟩
  · rw [k, h3]; exact hu _ _ _ ⟨k, by omega⟩
/-- the unit edge that ends at (x, y) -/
def inCov (e : Edg) (d : Nat) (x y : Int) : Prop :=
  e.2.2.2.2 = d ∧ (d = 0 ∧ y = e.2.1 ∧ e.1 < x ∧ x ≤ e.2.2.1 ∨ d = 1 ∧ x = e.1 ∧ e.2.1 < y ∧ y ≤ e.2.2.2.1 ∨
  d = 2 ∧ y = e.2.1 ∧ e.2.2.1 ≤ x ∧ x < e.1 ∨ d = 3 ∧ x = e.1 ∧ e.2.2.2.1 ≤ y ∧ y < e.2.1)
theorem inCov_to {e : Edg} (h : shapeE e) : inCov e e.2.2.2.2 e.2.2.1 e.2.2.2.1 := by
  unfold shapeE at h; unfold inCov; omega
theorem inCov_of {e : Edg} {d : Nat} {x y : Int} (h : covE e d x y) (hne : ¬ (x = e.1 ∧ y = e.2.1)) : inCov e d x y := by
  unfold covE at h; unfold inCov; omega
theorem inCov_in {S : Pix} {e : Edg} (hu : unitE S e) {d : Nat} {x y : Int} (h : inCov e d x y) : inB' S d x y = true := by
  obtain ⟨h0, h1, h2, h3⟩ := in_step S x y
  obtain ⟨k, h⟩ := h
  rcases h with ⟨rfl, _, _⟩ | ⟨rfl, _, _⟩ | ⟨rfl, _, _⟩ | ⟨rfl, _, _⟩
  · rw [h0]; exact hu _ _ _ ⟨k, by omega⟩
  · rw [h1]; exact hu _ _ _ ⟨k, by omega⟩
  · rw [h2]; exact hu _ _ _ ⟨k, by omega⟩
  · rw [h3]; exact hu _ _ _ ⟨k, by omega⟩
theorem EdgeSys.uniqIn {S : Pix} {E : List Edg} (h : EdgeSys S E) {i j : Nat} {e f : Edg} {d : Nat} {x y : Int} (hi : E[i]? = some e) (hj : E[j]? = some f) (he : inCov e d x y) (hf : inCov f d x y) : i = j := by
  obtain ⟨k, he⟩ := he
  obtain ⟨m, hf⟩ := hf
  rcases he with ⟨rfl, _, _⟩ | ⟨rfl, _, _⟩ | ⟨rfl, _, _⟩ | ⟨rfl, _, _⟩
  · exact h.uniq i j e f 0 (x - 1) y hi hj ⟨k, by omega⟩ ⟨m, by omega⟩
  · exact h.uniq i j e f 1 x (y - 1) hi hj ⟨k, by omega⟩ ⟨m, by omega⟩
  · exact h.uniq i j e f 2 (x + 1) y hi hj ⟨k, by omega⟩ ⟨m, by omega⟩
  · exact h.uniq i j e f 3 x (y + 1) hi hj ⟨k, by omega⟩ ⟨m, by omega⟩
/-- the piece that follows -/
def NextE (S : Pix) (E : List Edg) (i j : Nat) : Prop :=
  ∃ e f : Edg, E[i]? = some e ∧ E[j]? = some f ∧ f.1 = e.2.2.1 ∧ f.2.1 = e.2.2.2.1 ∧ f.2.2.2.2 = turnS S e.2.2.2.2 e.2.2.1 e.2.2.2.1
theorem EdgeSys.next {S : Pix} {E : List Edg} (h : EdgeSys S E) {i : Nat} {e : Edg} (hi : E[i]? = some e) : ∃ j, NextE S E i j := by
  have he := List.mem_of_getElem? hi
  have hs := h.shape e he
  have hin := in_to hs (h.unit e he)
  obtain ⟨t1, t2, t3⟩ := turnQ_out _ _ _ _ _ (shape_dir hs) hin
  obtain ⟨j, f, hj, hc⟩ := h.cover _ e.2.2.1 e.2.2.2.1 t3 t1
  by_cases hf : e.2.2.1 = f.1 ∧ e.2.2.2.1 = f.2.1
  · exact ⟨j, e, f, hi, hj, hf.1.symm, hf.2.symm, hc.1⟩
  · exfalso
    have hic := inCov_of hc hf
    have hfin := inCov_in (h.unit f (List.mem_of_getElem? hj)) hic
    have hd := turnQ_str2 _ _ _ _ _ t3 _ (shape_dir hs) hfin t1 hin
    have e1 : inCov e (turnQ (S (e.2.2.1 - 1) (e.2.2.2.1 - 1)) (S e.2.2.1 (e.2.2.2.1 - 1)) (S (e.2.2.1 - 1) e.2.2.2.1) (S e.2.2.1 e.2.2.2.1) e.2.2.2.2) e.2.2.1 e.2.2.2.1 := by rw [← hd]; exact inCov_to hs
    have := h.uniqIn hi hj e1 hic
    subst this
    rw [hi] at hj
    injection hj with hj
    subst hj
    unfold covE at hc
    unfold shapeE at hs
    omega
theorem EdgeSys.start {S : Pix} {E : List Edg} (h : EdgeSys S E) {i j : Nat} {e f : Edg} (hi : E[i]? = some e) (hj : E[j]? = some f) (h1 : e.1 = f.1) (h2 : e.2.1 = f.2.1) (h3 : e.2.2.2.2 = f.2.2.2.2) : i = j := by
  have a := cov_from (h.shape e (List.mem_of_getElem? hi))
  have b := cov_from (h.shape f (List.mem_of_getElem? hj))
  rw [← h1, ← h2, ← h3] at b
  exact h.uniq i j e f _ _ _ hi hj a b
theorem EdgeSys.func {S : Pix} {E : List Edg} (h : EdgeSys S E) {i j k : Nat} (h1 : NextE S E i j) (h2 : NextE S E i k) : j = k := by
  obtain ⟨e, f, a1, a2, a3, a4, a5⟩ := h1
  obtain ⟨e', g, b1, b2, b3, b4, b5⟩ := h2
  rw [a1] at b1
  injection b1 with b1
  subst b1
  exact h.start a2 b2 (by rw [a3, b3]) (by rw [a4, b4]) (by rw [a5, b5])
theorem EdgeSys.inj {S : Pix} {E : List Edg} (h : EdgeSys S E) {i j k : Nat} (h1 : NextE S E i k) (h2 : NextE S E j k) : i = j := by
  obtain ⟨e, f, a1, a2, a3, a4, a5⟩ := h1
  obtain ⟨e', g, b1, b2, b3, b4, b5⟩ := h2
  rw [a2] at b2
  injection b2 with b2
  subst b2
  have s1 := h.shape e (List.mem_of_getElem? a1)
  have s2 := h.shape e' (List.mem_of_getElem? b1)
  have i1 := in_to s1 (h.unit e (List.mem_of_getElem? a1))
  have i2 := in_to s2 (h.unit e' (List.mem_of_getElem? b1))
  have c1 := inCov_to s1
  have c2 := inCov_to s2
  rw [← a3, ← a4] at i1 c1 a5
  rw [← b3, ← b4] at i2 c2 b5
  have hd := turnQ_inj _ _ _ _ _ (shape_dir s1) _ (shape_dir s2) i1 i2 (a5.symm.trans b5)
  rw [← hd] at c2
  exact h.uniqIn a1 b1 c1 c2
/-- what the program takes: the piece that turns clockwise, or the first there is -/
theorem EdgeSys.choice {S : Pix} {E : List Edg} (h : EdgeSys S E) {i j : Nat} {e f : Edg} (hi : E[i]? = some e) (hj : E[j]? = some f) (h1 : f.1 = e.2.2.1) (h2 : f.2.1 = e.2.2.2.1)
    (hd : f.2.2.2.2 = (e.2.2.2.2 + 1) % 4 ∨ ∀ (k : Nat) (g : Edg), E[k]? = some g → g.1 = e.2.2.1 → g.2.1 = e.2.2.2.1 → g.2.2.2.2 ≠ (e.2.2.2.2 + 1) % 4) : NextE S E i j := by
  have hs := h.shape e (List.mem_of_getElem? hi)
  have hin := in_to hs (h.unit e (List.mem_of_getElem? hi))
  have hfs := h.shape f (List.mem_of_getElem? hj)
  have hout := h.unit f (List.mem_of_getElem? hj) _ _ _ (cov_from hfs)
  rw [h1, h2] at hout
  refine ⟨e, f, hi, hj, h1, h2, ?_⟩
  rcases hd with hd | hd
  · rw [hd] at hout ⊢
    unfold turnS turnQ
    unfold outB at hout
    rw [if_pos hout]
  · refine turnQ_only _ _ _ _ _ (shape_dir hs) _ (shape_dir hfs) hin ?_ hout
    rw [Bool.eq_false_iff]
    intro hcl
    obtain ⟨k, hk⟩ := h.next hi
    obtain ⟨e', g, k1, k2, k3, k4, k5⟩ := hk
    rw [hi] at k1
    injection k1 with k1
    subst k1
    refine hd k g k2 k3 k4 ?_
    rw [k5]
    unfold turnS turnQ
    rw [if_pos hcl]

/-! cycles of a one-to-one step -/
def Chain (N : Nat → Nat → Prop) (c : List Nat) : Prop := ∀ (k a b : Nat), c[k]? = some a → c[k + 1]? = some b → N a b
theorem Chain.snoc {N : Nat → Nat → Prop} {c : List Nat} {k : Nat} (h : Chain N c) (hk : ∀ a, c.getLast? = some a → N a k) : Chain N (c ++ [k]) := by
  intro t a b ha hb
  rcases Nat.lt_trichotomy (t + 1) c.length with hlt | he | hgt
  · rw [List.getElem?_append_left (by omega)] at ha
    rw [List.getElem?_append_left (by omega)] at hb
    exact h t a b ha hb
  · rw [List.getElem?_append_left (by omega)] at ha
    rw [List.getElem?_append_right (by omega), he, Nat.sub_self] at hb
    simp only [List.getElem?_cons_zero, Option.some.injEq] at hb
    subst hb
    refine hk a ?_
    rw [List.getLast?_eq_getElem?, show c.length - 1 = t by omega]
    exact ha
  · rw [List.getElem?_append_right (by omega)] at hb
    have := (List.getElem?_eq_some_iff.1 hb).1
    simp at this
    omega
/-- a closed chain -/
def Cyc (N : Nat → Nat → Prop) (c : List Nat) : Prop := c ≠ [] ∧ Chain N c ∧ ∀ a b, c.getLast? = some a → c.head? = some b → N a b
theorem Cyc.pred {N : Nat → Nat → Prop} {c : List Nat} (h : Cyc N c) {b : Nat} (hb : b ∈ c) : ∃ a ∈ c, N a b := by
  obtain ⟨t, ht⟩ := List.mem_iff_getElem?.1 hb
  have hl := (List.getElem?_eq_some_iff.1 ht).1
  cases t with
  | zero =>
    have hne := h.1
    obtain ⟨a, ha⟩ : ∃ a, c.getLast? = some a := by
      cases hq : c.getLast? with
      | none => exact absurd (List.getLast?_eq_none_iff.1 hq) hne
      | some a => exact ⟨a, rfl⟩
    exact ⟨a, List.mem_of_getLast? ha, h.2.2 a b ha (by rw [List.head?_eq_getElem?]; exact ht)⟩
  | succ t =>
    have ha := List.getElem?_eq_getElem (show t < c.length by omega)
    exact ⟨_, List.getElem_mem _, h.2.1 t _ b ha ht⟩
structure CycInv (N : Nat → Nat → Prop) (n : Nat) (cs : List (List Nat)) (c : List Nat) : Prop where
  cyc : ∀ q ∈ cs, Cyc N q
  chain : Chain N c
  nodup : (cs.flatten ++ c).Nodup
  lt : ∀ j ∈ cs.flatten ++ c, j < n
theorem CycInv.start (N : Nat → Nat → Prop) (n : Nat) : CycInv N n [] [] := ⟨fun q h => (List.not_mem_nil h).elim, fun k a b h => by simp at h, by simp, by simp⟩
theorem CycInv.push {N : Nat → Nat → Prop} {n k : Nat} {cs : List (List Nat)} {c : List Nat} (h : CycInv N n cs c) (hk : k < n) (hn : k ∉ cs.flatten ++ c) (hl : ∀ a, c.getLast? = some a → N a k) : CycInv N n cs (c ++ [k]) := by
  refine ⟨h.cyc, h.chain.snoc hl, ?_, fun j hj => ?_⟩
  · rw [← List.append_assoc]
    refine List.nodup_append.2 ⟨h.nodup, by simp, fun a ha b hb e => ?_⟩
    simp at hb
    subst hb
    subst e
    exact hn ha
  · rw [← List.append_assoc] at hj
    rcases List.mem_append.1 hj with hj | hj
    · exact h.lt j hj
    · simp at hj; subst hj; exact hk
/-- the walk that meets a used one has come back to where it began -/
theorem CycInv.close {N : Nat → Nat → Prop} (inj : ∀ i j k, N i k → N j k → i = j) {n k a : Nat} {cs : List (List Nat)} {c : List Nat} (h : CycInv N n cs c) (hl : c.getLast? = some a) (hN : N a k) (hk : k ∈ cs.flatten ++ c) : CycInv N n (cs ++ [c]) [] := by
  have hd := List.nodup_append.1 h.nodup
  have ha := List.mem_of_getLast? hl
  have hne : c ≠ [] := fun e => by rw [e] at ha; cases ha
  have hkc : c.head? = some k := by
    rcases List.mem_append.1 hk with hk | hk
    · obtain ⟨q, hq, hkq⟩ := List.mem_flatten.1 hk
      obtain ⟨b, hb, hN2⟩ := (h.cyc q hq).pred hkq
      have e := inj _ _ _ hN hN2
      subst e
      exact absurd rfl (hd.2.2 a (List.mem_flatten.2 ⟨q, hq, hb⟩) a ha)
    · obtain ⟨t, ht⟩ := List.mem_iff_getElem?.1 hk
      cases t with
      | zero => rw [List.head?_eq_getElem?]; exact ht
      | succ t =>
        exfalso
        have hl' := (List.getElem?_eq_some_iff.1 ht).1
        have hb := List.getElem?_eq_getElem (show t < c.length by omega)
        have e := inj _ _ _ hN (h.chain t _ k hb ht)
        rw [List.getLast?_eq_getElem?] at hl
        obtain ⟨m1, m2⟩ := List.getElem?_eq_some_iff.1 hl
        have := (List.getElem_inj (h₀ := m1) (h₁ := (show t < c.length by omega)) hd.2.1).1 (m2.trans e)
        omega
  refine ⟨fun q hq => ?_, fun k a b h => by simp at h, by simpa using h.nodup, by simpa using h.lt⟩
  rcases List.mem_append.1 hq with hq | hq
  · exact h.cyc q hq
  · simp at hq
    subst hq
    refine ⟨hne, h.chain, fun x y hx hy => ?_⟩
    rw [hl] at hx
    rw [hkc] at hy
    injection hx with hx
    injection hy with hy
    subst hx; subst hy
    exact hN
end Go.Reg
