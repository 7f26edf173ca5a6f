/- Texts put together: RowG, App0. -/
import Derived.Test.YtodefmfgoehkhaaGreatZA
import Derived.Laws.AppendOwn
import Derived.Laws.OwnMore
import Derived.Lib.AppendZerosOnto
import Derived.Deep.AppendLies
/- Rows of elements of any kind: read, made by the call, appended to, cut, written. No program stands here. -/
set_option linter.unusedVariables false
set_option linter.unusedSimpArgs false
namespace Go.Par
open Go.RowKit

theorem farStore_drawn {P : Program} {w : World} {a : Addr} {v : Value} {at_ : Bool} {w' : World} {l : List Addr} (h : w.farStore P a v at_ = .ok (w', l)) : w'.drawn = w.drawn := by
  unfold World.farStore at h
  split at h
  · split at h
    · rename_i r hr
      simp only [Except.ok.injEq] at h
      subst h
      unfold World.viewStore at hr
      simp only [bind, Except.bind, pure, Except.pure] at hr
      repeat' split at hr
      all_goals (try cases hr)
      all_goals rfl
    · cases h
  · cases h
theorem run_drawn (P : Program) {α : Type} : ∀ (s : Sem α) (w : World) (v : α) (w' : World), s.run P w = .ok v w' → w.drawn ≤ w'.drawn
  | .pure a, w, v, w', h => by
    simp only [Sem.run, Result.ok.injEq] at h
    rw [h.2]; exact Nat.le_refl _
  | .load m a k, w, v, w', h => by
    simp only [Sem.run] at h
    split at h
    · have q := run_drawn P (k _) _ _ _ h; exact q
    · split at h
      · have q := run_drawn P (k _) _ _ _ h; exact q
      · cases h
  | .store m a u k, w, v, w', h => by
    cases u
    case agg => simp only [Sem.run] at h; cases h
    case tuple => simp only [Sem.run] at h; cases h
    all_goals
      simp only [Sem.run] at h
      split at h
      · split at h
        · cases h
        · have q := run_drawn P k _ _ _ h; exact q
      · split at h
        · rename_i hf
          rw [← farStore_drawn hf]
          have q := run_drawn P k _ _ _ h
          exact q
        · cases h
  | .new o k, w, v, w', h => by
    simp only [Sem.run] at h
    have q := run_drawn P (k _) _ _ _ h
    exact q
  | .shape r k, w, v, w', h => by
    simp only [Sem.run] at h
    have q := run_drawn P (k _) _ _ _ h
    exact q
  | .freeze a n k, w, v, w', h => by
    simp only [Sem.run] at h
    have q := run_drawn P k _ _ _ h
    have e : (w.freeze a n).drawn = w.drawn := by
      unfold World.freeze
      repeat' split
      all_goals rfl
    rw [← e]
    exact q
  | .frozen a k, w, v, w', h => by
    simp only [Sem.run] at h
    have q := run_drawn P (k _) _ _ _ h
    exact q
  | .getObj r k, w, v, w', h => by
    simp only [Sem.run] at h
    split at h
    · cases h
    · have q := run_drawn P (k _) _ _ _ h; exact q
    · cases h
  | .setObj r o k, w, v, w', h => by
    simp only [Sem.run] at h
    split at h
    · cases h
    · have q := run_drawn P k _ _ _ h; exact q
    · cases h
  | .choose q k, w, v, w', h => by
    simp only [Sem.run] at h
    split at h
    · have q := run_drawn P (k _) _ _ _ h; exact q
    · exact Nat.le_trans (Nat.le_succ _) (run_drawn P (k _) _ _ _ h)
  | .sys c k, w, v, w', h => by
    simp only [Sem.run] at h
    exact Nat.le_trans (sys_drawn w c) (run_drawn P (k _) _ _ _ h)
  | .program k, w, v, w', h => by
    simp only [Sem.run] at h
    have q := run_drawn P (k _) _ _ _ h
    exact q
  | .mark m k, w, v, w', h => by
    simp only [Sem.run] at h
    have q := run_drawn P k _ _ _ h
    exact q
  | .halt h', w, v, w', h => by
    simp only [Sem.run] at h
    cases h
/-- a row may have grown; no draw is taken back -/
structure Grown (w w' : World) (row : Option Nat) : Prop extends World.grownBy w w' row where
  drawn : w.drawn ≤ w'.drawn
/-- a kind of elements: how they lie in memory -/
structure EL (P : Program) (α : Type) where
  enc : α → List Value
  size : Nat
  t : TypeId
  st : TypeId
  zero : Value
  bytes : Nat
  len : ∀ x, (enc x).length = size
  one : ∀ x, ∀ v ∈ enc x, v.oneCell' = true
  pos : 0 < size
  und : P.underlying st = some (.slice t)
  info : (P.info? t).map (fun i => (i.zero, i.size, i.bytes)) = some (some zero, size, bytes)
  zsize : zero.cells.size = size
  small : bytes ≤ 256
section
variable {P : Program} {α : Type} (E : EL P α)
def EL.cells (l : List α) : List Value := l.flatMap E.enc
theorem EL.cells_nil : E.cells [] = [] := rfl
theorem EL.cells_cons (x : α) (l : List α) : E.cells (x :: l) = E.enc x ++ E.cells l := rfl
theorem EL.cells_append (l m : List α) : E.cells (l ++ m) = E.cells l ++ E.cells m := List.flatMap_append
theorem EL.cells_length (l : List α) : (E.cells l).length = l.length * E.size := by
  induction l with
  | nil => simp [EL.cells]
  | cons x l ih => rw [EL.cells_cons, List.length_append, E.len, ih, List.length_cons, Nat.add_mul]; omega
theorem EL.cells_at {l : List α} {i j : Nat} {x : α} {v : Value} (h : l[i]? = some x) (hv : (E.enc x)[j]? = some v) : (E.cells l)[i * E.size + j]? = some v := by
  have hj := (List.getElem?_eq_some_iff.1 hv).1
  rw [E.len] at hj
  induction l generalizing i with
  | nil => simp at h
  | cons y l ih =>
    rw [EL.cells_cons]
    cases i with
    | zero =>
      simp at h
      subst h
      rw [List.getElem?_append_left (by rw [E.len]; omega), Nat.zero_mul, Nat.zero_add]
      exact hv
    | succ i =>
      have := ih (i := i) (by simpa using h)
      rw [List.getElem?_append_right (by rw [E.len, Nat.add_mul]; omega), E.len, Nat.add_mul, Nat.one_mul, show i * E.size + E.size + j - E.size = i * E.size + j by omega]
      exact this
theorem EL.cells_at' {l : List α} {k : Nat} {v : Value} (h : (E.cells l)[k]? = some v) : ∃ i j x, l[i]? = some x ∧ (E.enc x)[j]? = some v ∧ k = i * E.size + j ∧ j < E.size := by
  induction l generalizing k with
  | nil => simp [EL.cells] at h
  | cons y l ih =>
    rw [EL.cells_cons] at h
    by_cases hk : k < E.size
    · rw [List.getElem?_append_left (by rw [E.len]; exact hk)] at h
      exact ⟨0, k, y, rfl, h, by omega, hk⟩
    · rw [List.getElem?_append_right (by rw [E.len]; omega), E.len] at h
      obtain ⟨i, j, x, h1, h2, h3, h4⟩ := ih h
      refine ⟨i + 1, j, x, by simpa using h1, h2, ?_, h4⟩
      rw [Nat.add_mul, Nat.one_mul]
      omega
theorem EL.cells_one (l : List α) : ∀ u ∈ E.cells l, u.oneCell' = true := by
  intro u hu
  obtain ⟨x, _, hx⟩ := List.mem_flatMap.1 hu
  exact E.one x u hx
theorem EL.enc_some (x : α) {j : Nat} (hj : j < E.size) : ∃ v, (E.enc x)[j]? = some v := ⟨_, List.getElem?_eq_getElem (by rw [E.len]; exact hj)⟩

/-! ## rows that are read -/
def EL.At (w : World) (A : Option Addr) (l : List α) : Prop :=
  l ≠ [] → ∃ b o, A = some ⟨b, o, none⟩ ∧ ∀ i x, l[i]? = some x → ∀ j v, (E.enc x)[j]? = some v → w.cell? ⟨b, o + i * E.size + j, none⟩ = some v
def EL.Row (w : World) (v : Value) (l : List α) : Prop := ∃ A c, v = .slice A l.length c ∧ l.length ≤ c ∧ l.length ≤ 17592186044416 ∧ E.At w A l
variable {E}
theorem EL.At.ext {w w' : World} {A : Option Addr} {l : List α} (h : E.At w A l) (he : Ext w w') : E.At w' A l := fun hl => by
  obtain ⟨b, o, e, hc⟩ := h hl
  exact ⟨b, o, e, fun i x hx j v hv => he.cell (hc i x hx j v hv)⟩
theorem EL.At.nil (w : World) (A : Option Addr) : E.At w A [] := fun h => absurd rfl h
theorem EL.Row.ext {w w' : World} {v : Value} {l : List α} (h : E.Row w v l) (he : Ext w w') : E.Row w' v l := by
  obtain ⟨A, c, e, h1, h2, h3⟩ := h
  exact ⟨A, c, e, h1, h2, h3.ext he⟩
theorem EL.Row.stable (l : List α) : Stable (fun v w => E.Row w v l) := fun _ _ _ h he => h.ext he
theorem EL.Row.at {w : World} {v : Value} {l : List α} {n : Nat} (h : E.Row w v l) (hn : l.length = n) : ∃ A c, v = .slice A n c ∧ n ≤ c ∧ n ≤ 17592186044416 ∧ E.At w A l := by
  subst hn
  exact h
theorem EL.At.box {w : World} {b : Nat} {t : TypeId} {cs : Array Value} {l : List α} (h : Box w b t cs) (hc : ∀ (j : Nat) (v : Value), (E.cells l)[j]? = some v → cs[j]? = some v) : E.At w (some ⟨b, 0, none⟩) l :=
  fun _ => ⟨b, 0, rfl, fun i x hx j v hv => by rw [h.cell, Nat.zero_add]; exact hc _ _ (E.cells_at hx hv)⟩
theorem EL.At.drop {w : World} {b o : Nat} {l : List α} (h : E.At w (some ⟨b, o, none⟩) l) (k : Nat) : E.At w (some ⟨b, o + k * E.size, none⟩) (l.drop k) := fun hne => by
  obtain ⟨b', o', e, hc⟩ := h (fun e => hne (by rw [e, List.drop_nil]))
  injection e with e; injection e with e1 e2; subst e1 e2
  refine ⟨b, o + k * E.size, rfl, fun i x hx j v hv => ?_⟩
  rw [List.getElem?_drop] at hx
  have := hc _ x hx j v hv
  rw [Nat.add_mul] at this
  rw [show o + k * E.size + i * E.size + j = o + (k * E.size + i * E.size) + j by omega]
  exact this
theorem EL.At.take {w : World} {A : Option Addr} {l : List α} (h : E.At w A l) (k : Nat) : E.At w A (l.take k) := fun hne => by
  obtain ⟨b, o, e, hc⟩ := h (fun e => hne (by rw [e, List.take_nil]))
  refine ⟨b, o, e, fun i x hx => hc i x ?_⟩
  rw [List.getElem?_take] at hx
  split at hx
  · exact hx
  · cases hx

/-! ## what an append reads -/
def SrcG (w : World) (size : Nat) (sv : Value) (m : Nat) (news : List Value) : Prop :=
  news.length = m * size ∧ (∀ u ∈ news, u.oneCell' = true) ∧ ((∃ c, sv = .slice none 0 c) ∧ m = 0 ∨ ∃ ad c, sv = .slice (some ad) m c ∧ ∀ j u, news[j]? = some u → w.cell? (ad.add j) = some u)
theorem EL.Row.src {w : World} {v : Value} {l : List α} (h : E.Row w v l) : SrcG w E.size v l.length (E.cells l) := by
  obtain ⟨A, c, rfl, _, _, hA⟩ := h
  refine ⟨E.cells_length l, E.cells_one l, ?_⟩
  cases A with
  | none =>
    cases l with
    | nil => exact .inl ⟨⟨c, rfl⟩, rfl⟩
    | cons p l => obtain ⟨b, o, e, _⟩ := hA (by simp); cases e
  | some ad =>
    refine .inr ⟨ad, c, rfl, fun k u hu => ?_⟩
    obtain ⟨i, j, x, hx, hv, rfl, _⟩ := E.cells_at' hu
    obtain ⟨b, o, e, hc⟩ := hA (by rintro rfl; simp at hx)
    injection e with e
    subst e
    have := hc i x hx j u hv
    rw [Addr.add_lit]
    rw [show o + (i * E.size + j) = o + i * E.size + j by omega]
    exact this

/-! ## rows of the call's own -/
variable (E) in
def EL.Own (w : World) (base : Nat) (v : Value) (l : List α) : Prop := w.ownsRow base E.t E.size v l.length (E.cells l)
theorem EL.Own.nil (w : World) (base : Nat) : E.Own w base (.slice none 0 0) [] := World.ownsRow_nil w base _ _
theorem EL.Own.made (w : World) : E.Own (w.alloc (.cells #[] E.t)) w.heap.size (.slice (some ⟨w.heap.size, 0, none⟩) 0 0) [] :=
  World.ownsRow_made w #[] 0 (Nat.le_refl _) (by decide) (by simp)
theorem EL.Own.ext {w w' : World} {base : Nat} {v : Value} {l : List α} (h : E.Own w base v l) (he : Ext w w') : E.Own w' base v l :=
  World.ownsRow.kept (row := none) h ⟨Below.os he.1, Below.tape he.1, Below.output he.1, Below.size he.1, fun k hk _ => Below.block he.1 k hk⟩ (by cases v.ownBlock <;> simp)
theorem EL.Own.len {w : World} {base : Nat} {v : Value} {l : List α} (h : E.Own w base v l) : ∃ A c, v = .slice A l.length c ∧ l.length ≤ c ∧ c ≤ maxLen := by
  rcases h.2 with ⟨rfl, h0⟩ | ⟨g, cap, cur, rfl, _, _, h1, h2, _⟩
  · rw [h0]; exact ⟨_, _, rfl, Nat.le_refl _, by decide⟩
  · exact ⟨_, _, rfl, h1, h2⟩
theorem EL.Own.row {w : World} {base : Nat} {v : Value} {l : List α} (h : E.Own w base v l) (hb : l.length ≤ 17592186044416) : E.Row w v l := by
  have hcell := fun g hg => World.ownsRow.cells h (g := g) hg
  rcases h.2 with ⟨rfl, h0⟩ | ⟨g, cap, cur, rfl, _, _, h1, h2, _⟩
  · have : l = [] := List.eq_nil_of_length_eq_zero h0
    subst this
    exact ⟨none, 0, rfl, Nat.le_refl _, hb, EL.At.nil w _⟩
  · refine ⟨_, _, rfl, h1, hb, fun _ => ⟨g, 0, rfl, fun i x hx j v hv => ?_⟩⟩
    have := hcell g rfl _ _ (E.cells_at hx hv)
    simpa [Addr.add_lit] using this
theorem EL.Own.at {w : World} {base : Nat} {v : Value} {l : List α} {n : Nat} (h : E.Own w base v l) (hn : l.length = n) (hb : n ≤ 17592186044416) : ∃ A c, v = .slice A n c ∧ n ≤ c ∧ E.At w A l := by
  subst hn
  obtain ⟨A, c, e, h1, h2, h3⟩ := h.row hb
  exact ⟨A, c, e, h1, h3⟩
theorem EL.Own.lower {w : World} {B B' : Nat} {v : Value} {l : List α} (h : E.Own w B v l) (hb : B' ≤ B) : E.Own w B' v l := by
  refine ⟨h.1, ?_⟩
  rcases h.2 with ⟨e, h0⟩ | ⟨g, cap, cur, e, hb', h2⟩
  · exact .inl ⟨e, h0⟩
  · exact .inr ⟨g, cap, cur, e, Nat.le_trans hb hb', h2⟩
theorem EL.Own.oneCell {w : World} {B : Nat} {v : Value} {l : List α} (h : E.Own w B v l) : v.oneCell' = true := by
  rcases h.2 with ⟨rfl, _⟩ | ⟨g, cap, cur, rfl, _⟩ <;> rfl
theorem EL.Own.head {w : World} {B : Nat} {v : Value} {l : List α} (h : E.Own w B v l) (hl : 0 < l.length) : ∃ g cap, v = .slice (some ⟨g, 0, none⟩) l.length cap ∧ B ≤ g ∧ l.length ≤ cap := by
  rcases h.2 with ⟨e, h0⟩ | ⟨g, cap, cur, e, hb, hg, h1, h2, h3, h4⟩
  · omega
  · exact ⟨g, cap, e, hb, h1⟩
theorem EL.Own.opened {w : World} {B g n cap : Nat} {l : List α} (h : E.Own w B (.slice (some ⟨g, 0, none⟩) n cap) l) : ∃ cur, n = l.length ∧ B ≤ g ∧ Box w g E.t cur ∧ n ≤ cap ∧ cap ≤ maxLen ∧ cur.size = cap * E.size ∧ ∀ (j : Nat) (v : Value), (E.cells l)[j]? = some v → cur[j]? = some v := by
  rcases h.2 with ⟨e, _⟩ | ⟨g', cap', cur, e, hb, hg, h1, h2, h3, h4⟩
  · cases e
  · simp only [Value.slice.injEq, Option.some.injEq, Addr.mk.injEq] at e
    obtain ⟨⟨rfl, _, _⟩, rfl, rfl⟩ := e
    refine ⟨cur, rfl, hb, hg, h1, h2, h3, fun j v hv => ?_⟩
    rw [← h4, List.getElem?_take] at hv
    split at hv
    · simpa using hv
    · cases hv
theorem EL.Own.lt {w : World} {B g n cap : Nat} {l : List α} (h : E.Own w B (.slice (some ⟨g, 0, none⟩) n cap) l) : g < w.heap.size := by
  obtain ⟨cur, _, _, hg, _⟩ := h.opened
  exact hg.lt
theorem EL.Own.mk {w : World} {B g m cap : Nat} {l : List α} {cur : Array Value} (hm : m = l.length) (hb : B ≤ g) (hB : Box w g E.t cur) (h1 : m ≤ cap) (h2 : cap ≤ maxLen) (h3 : cur.size = cap * E.size)
    (h4 : ∀ (j : Nat) (v : Value), (E.cells l)[j]? = some v → cur[j]? = some v) : E.Own w B (.slice (some ⟨g, 0, none⟩) m cap) l := by
  subst hm
  refine ⟨E.cells_length l, .inr ⟨g, cap, cur, rfl, hb, hB, h1, h2, h3, ?_⟩⟩
  refine List.ext_getElem? fun j => ?_
  by_cases hj : j < l.length * E.size
  · rw [List.getElem?_take, if_pos hj]
    obtain ⟨v, hv⟩ : ∃ v, (E.cells l)[j]? = some v := ⟨_, List.getElem?_eq_getElem (by rw [E.cells_length]; exact hj)⟩
    rw [hv, Array.getElem?_toList]
    exact h4 j v hv
  · rw [List.getElem?_eq_none (by rw [List.length_take]; omega), List.getElem?_eq_none (by rw [E.cells_length]; omega)]
theorem EL.Own.cut {w : World} {B g n cap k : Nat} {l : List α} (h : E.Own w B (.slice (some ⟨g, 0, none⟩) n cap) l) (hk : k ≤ n) : E.Own w B (.slice (some ⟨g, 0, none⟩) k cap) (l.take k) := by
  obtain ⟨cur, hl, hb, hg, hcap, hm, hs, hc⟩ := h.opened
  refine EL.Own.mk (by rw [List.length_take]; omega) hb hg (by omega) hm hs fun j v hv => hc _ _ ?_
  rw [← List.take_append_drop k l, E.cells_append, List.getElem?_append_left (List.getElem?_eq_some_iff.1 hv).1]
  exact hv
theorem EL.Own.but {w w' : World} {B g : Nat} {v : Value} {l : List α} (h : E.Own w B v l) (hb : But g w w') (hg : g < B) : E.Own w' B v l := by
  refine ⟨h.1, ?_⟩
  rcases h.2 with ⟨e, h0⟩ | ⟨g', cap, cur, e, hb', hh, rest⟩
  · exact .inl ⟨e, h0⟩
  · exact .inr ⟨g', cap, cur, e, hb', (hb.block g' (Box.lt (t := E.t) (cs := cur) hh) (by omega)).trans hh, rest⟩
theorem EL.Own.block {w : World} {base : Nat} {v : Value} {l : List α} (h : E.Own w base v l) : v.ownBlock = none ∨ ∃ g, v.ownBlock = some g ∧ base ≤ g := by
  cases hv : v.ownBlock with
  | none => exact .inl rfl
  | some g => exact .inr ⟨g, rfl, (World.ownsRow.lt h g hv).1⟩
theorem growExt {w0 w w' : World} {base : Nat} {v : Value} {l : List α} (h : Ext w0 w) (hown : E.Own w base v l) (hb : w0.heap.size ≤ base) (hg : Grown w w' v.ownBlock) : Ext w0 w' :=
  ⟨⟨(hg.os).trans (Below.os h.1), (hg.tape).trans (Below.tape h.1), (hg.output).trans (Below.output h.1), Nat.le_trans (Below.size h.1) hg.size, fun i hi =>
    (hg.block i (Nat.lt_of_lt_of_le hi (Below.size h.1)) (fun e => by have := (World.ownsRow.lt hown i e.symm).1; omega)).trans (Below.block h.1 i hi)⟩, Nat.le_trans h.2 hg.drawn⟩
theorem boxGrown {w w' : World} {b : Nat} {t : TypeId} {cs : Array Value} {ob : Option Nat} (h : Box w b t cs) (hg : Grown w w' ob) (hne : ob ≠ some b) : Box w' b t cs :=
  (hg.block b h.lt (fun e => hne e.symm)).trans h
/-- an append to a row of the call's own -/
theorem EL.app {w : World} {base : Nat} {v sv : Value} {l m : List α} (ty : TypeId) (hown : E.Own w base v l) (hm : E.Row w sv m) (hb : l.length + m.length ≤ 1000000000) (hbase : base ≤ w.heap.size) :
    ∃ v' w', (Builtin.append_ #[E.st, E.st] ty #[v, sv]).run P w = .ok v' w' ∧ E.Own w' base v' (l ++ m) ∧ Grown w w' v.ownBlock ∧ (v' = v ∨ v'.ownBlock = v.ownBlock ∨ v'.ownBlock = some w.heap.size) := by
  obtain ⟨i0, hi, hz0, hz1, hz2⟩ := info_parts E.info
  obtain ⟨h1, h2, ⟨⟨c, rfl⟩, h0⟩ | ⟨ad, c, rfl, h3⟩⟩ := hm.src
  · have e : m = [] := List.eq_nil_of_length_eq_zero h0
    subst e
    refine ⟨v, w, ?_, by rw [List.append_nil]; exact hown, ⟨⟨rfl, rfl, rfl, Nat.le_refl _, fun _ _ _ => rfl⟩, Nat.le_refl _⟩, .inl rfl⟩
    rcases hown.2 with ⟨rfl, h0⟩ | ⟨g, cap, cur, rfl, _, _, hnc, _⟩
    · simp [Builtin.append_, run_underlying E.und, sizeOf, typeInfo, hi, Builtin.lenOf, Builtin.firstCells]
    · simp [Builtin.append_, run_underlying E.und, sizeOf, typeInfo, hi, Builtin.lenOf, Builtin.firstCells, hnc, storeCells]
  · have hbytes : (l.length + m.length) * E.bytes ≤ 140737488355328 := Nat.le_trans (Nat.mul_le_mul hb E.small) (by decide)
    obtain ⟨v', w', hr, k2, k3, _, k5⟩ := run_append_own_at (P := P) w base E.st ty E.t i0 E.zero E.size E.bytes E.und hi hz0 hz1 hz2 E.zsize E.pos v _ _ hown ad m.length c (E.cells m) h1 h3 h2 (by unfold maxLen; omega) hbytes hbase
    refine ⟨v', w', hr, ?_, ⟨k3, run_drawn P _ _ _ _ hr⟩, ?_⟩
    · unfold EL.Own
      rw [List.length_append, E.cells_append]
      exact k2
    · rcases k5 with k5 | k5
      · exact .inr (.inl k5)
      · exact .inr (.inr k5)
theorem EL.wpApp {w : World} {ops : Array Oper} {rest : List Oper} {o : Oper} {a : Act} {Q : Exit → Act → World → Prop} (E : EL P α) (hgd : o.guard = none) (s x : Operand)
    (ho : o.op = .call { callee := .builtin .append, args := #[s, x], argTypes := #[E.st, E.st] }) (base : Nat) (v sv : Value) (l m : List α)
    (hs : a.eval s = v) (hx : a.eval x = sv) (hown : E.Own w base v l) (hm : E.Row w sv m) (hb : l.length + m.length ≤ 1000000000) (hbase : base ≤ w.heap.size)
    (h : ∀ v' w', E.Own w' base v' (l ++ m) → Grown w w' v.ownBlock → (v' = v ∨ v'.ownBlock = v.ownBlock ∨ v'.ownBlock = some w.heap.size) → wpList P ops Q rest (a.put o.dst v') w') : wpList P ops Q (o :: rest) a w := by
  obtain ⟨v', w', hr, h2, h3, h4⟩ := EL.app (E := E) o.type hown hm hb hbase
  exact Lib.wpList_append_run _ hgd _ _ _ _ ho _ _ hs hx _ _ hr (h v' w' h2 h3 h4)
end
end Go.Par

/- The first append to a row made empty, in a region that draws its order. No program stands here. -/
set_option linter.unusedVariables false
set_option linter.unusedSimpArgs false
namespace Go.Par
open Go.RowKit
section
variable {P : Program} {α : Type} {E : EL P α}
theorem EL.app0 {w : World} {B b : Nat} {l : List α} {sv : Value} (ty : TypeId) (hm : E.Row w sv l) (hb : l.length ≤ 1000000000) (hB : B ≤ w.heap.size) (hbb : B ≤ b) (hbx : Box w b E.t #[]) :
    ∃ v' w', (Builtin.append_ #[E.st, E.st] ty #[.slice (some ⟨b, 0, none⟩) 0 0, sv]).run P w = .ok v' w' ∧ E.Own w' B v' l ∧ Ext w w' := by
  obtain ⟨i0, hi, hz0, hz1, hz2⟩ := info_parts E.info
  by_cases h0 : l.length = 0
  · have e : l = [] := List.eq_nil_of_length_eq_zero h0
    subst e
    obtain ⟨A, c, rfl, _⟩ := hm
    refine ⟨.slice (some ⟨b, 0, none⟩) 0 0, w, ?_, ⟨by simp [EL.cells], .inr ⟨b, 0, #[], rfl, hbb, hbx, Nat.le_refl _, by decide, by simp, by simp [EL.cells]⟩⟩, Ext.refl w⟩
    cases A <;> simp [Builtin.append_, run_underlying E.und, sizeOf, typeInfo, hi, Builtin.lenOf, Builtin.firstCells, storeCells, loadCells, loadCellsFrom]
  · obtain ⟨h1, h2, ⟨_, h3⟩ | ⟨ad, c, rfl, h3⟩⟩ := hm.src
    · exact absurd h3 h0
    · have hbytes : l.length * E.bytes ≤ 140737488355328 := Nat.le_trans (Nat.mul_le_mul hb E.small) (by decide)
      have hr := run_append_grow (P := P) (w := w) E.st ty E.t i0 _ E.und hi hz0 ⟨b, 0, none⟩ 0 0 [] (by simp) (fun j v h => by simp at h) ad l.length c (E.cells l) (by rw [hz1]; exact h1) h3 (by omega) (by omega) (growslice_fits (by omega) (by rw [hz2, Nat.zero_add]; exact hbytes))
      refine ⟨_, _, hr, ?_, (Ext.drew w).trans (Ext.alloc _ _)⟩
      have hge := grownCap_ge w (0 + l.length) 0 E.t
      have hcm := grownCap_le_maxLen w (0 + l.length) 0 E.t (by unfold maxLen; omega)
      generalize grownCap w (0 + l.length) 0 E.t = G at *
      refine ⟨E.cells_length l, .inr ⟨w.heap.size, G, _, by rw [Nat.zero_add], hB, heap_alloc_new w.drew _, by omega, hcm, ?_, ?_⟩⟩
      · simp only [Array.size_append, List.size_toArray, size_zeroCells, EL.cells_length, List.length_nil, E.zsize]
        rw [Nat.zero_add, ← Nat.add_mul]
        congr 1
        omega
      · rw [← E.cells_length l]
        simp only [Array.toList_append, List.nil_append, List.append_assoc]
        simp
/-- an append to a row without room: a new row; nothing that was there changes -/
theorem EL.appFull {w : World} {B n : Nat} {ad : Addr} {l m : List α} {sv : Value} (ty : TypeId) (hl : l.length = n) (hat : E.At w (some ad) l) (hm : E.Row w sv m) (hm0 : 0 < m.length) (hb : l.length + m.length ≤ 1000000000) (hB : B ≤ w.heap.size) :
    ∃ v' w', (Builtin.append_ #[E.st, E.st] ty #[.slice (some ad) n n, sv]).run P w = .ok v' w' ∧ E.Own w' B v' (l ++ m) ∧ Ext w w' := by
  obtain ⟨i0, hi, hz0, hz1, hz2⟩ := info_parts E.info
  obtain ⟨h1, h2, ⟨_, h3⟩ | ⟨ad2, c, rfl, h3⟩⟩ := hm.src
  · omega
  · have hbytes : (n + m.length) * E.bytes ≤ 140737488355328 := by
      rw [← hl]; exact Nat.le_trans (Nat.mul_le_mul hb E.small) (by decide)
    have hr := run_append_grow (P := P) (w := w) E.st ty E.t i0 _ E.und hi hz0 ad n n (E.cells l) (by rw [E.cells_length, hz1, hl]) (fun j v hv => by
      have hne : l ≠ [] := by rintro rfl; simp [EL.cells] at hv
      obtain ⟨b, o, e, hc⟩ := hat hne
      injection e with e
      subst e
      obtain ⟨i, k, x, hx, hv', hj, _⟩ := E.cells_at' hv
      rw [Addr.add_lit, hj, ← Nat.add_assoc]
      exact hc i x hx k v hv') ad2 m.length c (E.cells m) (by rw [hz1]; exact h1) h3 (by omega) (by omega) (growslice_fits (by omega) (by rw [hz2]; exact hbytes))
    refine ⟨_, _, hr, ?_, (Ext.drew w).trans (Ext.alloc _ _)⟩
    have hge := grownCap_ge w (n + m.length) n E.t
    have hcm := grownCap_le_maxLen w (n + m.length) n E.t (by unfold maxLen; omega)
    generalize grownCap w (n + m.length) n E.t = G at *
    refine ⟨E.cells_length _, .inr ⟨w.heap.size, G, _, by rw [List.length_append, hl], hB, heap_alloc_new w.drew _, by rw [List.length_append, hl]; omega, hcm, ?_, ?_⟩⟩
    · simp only [Array.size_append, List.size_toArray, size_zeroCells, EL.cells_length, E.zsize]
      rw [hl, ← Nat.add_mul, ← Nat.add_mul]
      congr 1
      omega
    · rw [← E.cells_length (l ++ m), E.cells_append]
      simp only [Array.toList_append]
      rw [List.take_append_of_le_length (by simp)]
      exact List.take_of_length_le (by simp)
theorem EL.wpAppFull {w : World} {ops : Array Oper} {rest : List Oper} {o : Oper} {a : Act} {Q : Exit → Act → World → Prop} (E : EL P α) (hgd : o.guard = none) (s x : Operand)
    (ho : o.op = .call { callee := .builtin .append, args := #[s, x], argTypes := #[E.st, E.st] }) (base n : Nat) (ad : Addr) (sv : Value) (l m : List α)
    (hs : a.eval s = .slice (some ad) n n) (hx : a.eval x = sv) (hl : l.length = n) (hat : E.At w (some ad) l) (hm : E.Row w sv m) (hm0 : 0 < m.length) (hb : l.length + m.length ≤ 1000000000) (hbase : base ≤ w.heap.size)
    (h : ∀ v' w', E.Own w' base v' (l ++ m) → Ext w w' → wpList P ops Q rest (a.put o.dst v') w') : wpList P ops Q (o :: rest) a w := by
  obtain ⟨v', w', hr, h2, h3⟩ := EL.appFull (E := E) o.type hl hat hm hm0 hb hbase
  exact Lib.wpList_append_run _ hgd _ _ _ _ ho _ _ hs hx _ _ hr (h v' w' h2 h3)
theorem relStep_appG {ops : Array Oper} {o : Oper} {a : Act} {w1 : World} {R : VP} (hw : Region.wanted o (yielded ops a.tmps) = true) (s x : Operand) (t : TypeId)
    (ho : o.op = .call { callee := .builtin .append, args := #[s, x], argTypes := #[t, t] }) {v sv : Value} (hs : a.eval s = v) (hx : a.eval x = sv) {v' : Value} {w' : World}
    (hr : (Builtin.append_ #[t, t] o.type #[v, sv]).run P w1 = .ok v' w') (hE : Ext w1 w') (hR : R v' w') : relStep P ops o (.rel R false) w1 a := by
  rw [relStep_def, if_pos hw]
  unfold execOp
  simp only [ho, resolve, invoke, builtin, Sem.run_bind, Sem.run_pure, Result.andThen_ok, List.map_toArray, List.map_cons, List.map_nil, hs, hx, hr]
  exact ⟨hE, hR, fun h => by cases h⟩
end
end Go.Par
