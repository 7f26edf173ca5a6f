/- Outlines of the program: marks and cycles; which edges begin where. Plain law: no walk stands here. -/
import Derived.Test.YtkjpcjmbhpfelaaRgRing2
import Derived.Test.YtkjpcjmbhpfelaaRgKey
set_option linter.unusedVariables false
set_option linter.unusedSimpArgs false
namespace Go.Reg
open Go.Proofs.Ytkjpcjmbhpfelaa Go.Par

structure CyS (N : Nat → Nat → Prop) (n i : Nat) (cs : List (List Nat)) (c : List Nat) (used : List Bool) : Prop where
  inv : CycInv N n cs c
  len : used.length = n
  mark : ∀ j : Nat, used[j]? = some true ↔ j ∈ cs.flatten ++ c
  done : ∀ j, j < i → j ∈ cs.flatten
theorem CyS.start (N : Nat → Nat → Prop) (n : Nat) : CyS N n 0 [] [] (List.replicate n false) :=
  ⟨CycInv.start N n, List.length_replicate, fun j => by
    constructor
    · intro h
      rw [List.getElem?_replicate] at h
      split at h <;> simp at h
    · intro h; simp at h, fun j h => by omega⟩
theorem CyS.unused {N : Nat → Nat → Prop} {n i : Nat} {cs : List (List Nat)} {c : List Nat} {used : List Bool} (h : CyS N n i cs c used) {k : Nat} (hk : used[k]? = some false) : k ∉ cs.flatten ++ c := fun hm => by
  have := (h.mark k).2 hm
  rw [hk] at this
  simp at this
theorem CyS.push {N : Nat → Nat → Prop} {n i : Nat} {cs : List (List Nat)} {c : List Nat} {used : List Bool} (h : CyS N n i cs c used) {k : Nat} (hk : used[k]? = some false) (hl : ∀ a, c.getLast? = some a → N a k) : CyS N n i cs (c ++ [k]) (used.set k true) := by
  have hkn := (List.getElem?_eq_some_iff.1 hk).1
  have hn := h.len
  refine ⟨h.inv.push (by omega) (h.unused hk) hl, by rw [List.length_set]; exact hn, fun j => ?_, h.done⟩
  rw [← List.append_assoc, List.mem_append]
  by_cases e : j = k
  · subst e
    rw [List.getElem?_set_self hkn]
    simp
  · rw [List.getElem?_set_ne (fun q => e q.symm), h.mark j]
    simp [e]
theorem CyS.shut {N : Nat → Nat → Prop} (inj : ∀ i j k, N i k → N j k → i = j) {n i : Nat} {cs : List (List Nat)} {c : List Nat} {used : List Bool} (h : CyS N n i cs c used) {k a : Nat} (hk : used[k]? = some true) (hl : c.getLast? = some a) (hN : N a k) (hh : c.head? = some i) : CyS N n (i + 1) (cs ++ [c]) [] used := by
  refine ⟨h.inv.close inj hl hN ((h.mark k).1 hk), h.len, fun j => by rw [h.mark j]; simp, fun j hj => ?_⟩
  rw [List.flatten_append]
  by_cases e : j = i
  · subst e
    refine List.mem_append_right _ ?_
    simp
    exact List.mem_of_head? hh
  · exact List.mem_append_left _ (h.done j (by omega))
theorem CyS.pass {N : Nat → Nat → Prop} {n i : Nat} {cs : List (List Nat)} {used : List Bool} (h : CyS N n i cs [] used) (hk : used[i]? = some true) : CyS N n (i + 1) cs [] used := by
  refine ⟨h.inv, h.len, h.mark, fun j hj => ?_⟩
  by_cases e : j = i
  · subst e
    have := (h.mark j).1 hk
    simpa using this
  · exact h.done j (by omega)
theorem CyS.room {N : Nat → Nat → Prop} {n i : Nat} {cs : List (List Nat)} {c : List Nat} {used : List Bool} (h : CyS N n i cs c used) : cs.flatten.length + c.length ≤ n := by
  rw [← List.length_append]
  exact nodup_le h.inv.nodup h.inv.lt
theorem flat_ge {cs : List (List Nat)} (h : ∀ q ∈ cs, q ≠ []) : cs.length ≤ cs.flatten.length := by
  induction cs with
  | nil => simp
  | cons q cs ih =>
    have h1 := List.length_pos_iff.2 (h q List.mem_cons_self)
    have h2 := ih fun p hp => h p (List.mem_cons_of_mem _ hp)
    rw [List.flatten_cons, List.length_append, List.length_cons]
    omega
theorem CyS.count {N : Nat → Nat → Prop} {n i : Nat} {cs : List (List Nat)} {c : List Nat} {used : List Bool} (h : CyS N n i cs c used) : cs.length ≤ n := by
  have h1 := h.room
  have h2 := flat_ge fun q hq => (h.inv.cyc q hq).1
  omega
/-- where the walk of one cycle stands -/
def AtK (N : Nat → Nat → Prop) (i : Nat) (c : List Nat) (k : Nat) : Prop := c = [] ∧ k = i ∨ c.head? = some i ∧ ∃ a, c.getLast? = some a ∧ N a k
theorem AtK.last {N : Nat → Nat → Prop} {i : Nat} {c : List Nat} {k : Nat} (h : AtK N i c k) : ∀ a, c.getLast? = some a → N a k := by
  intro a ha
  rcases h with ⟨rfl, _⟩ | ⟨_, b, hb, hN⟩
  · simp at ha
  · rw [ha] at hb; injection hb with hb; subst hb; exact hN
theorem AtK.step {N : Nat → Nat → Prop} {i : Nat} {c : List Nat} {k k' : Nat} (h : AtK N i c k) (hN : N k k') : AtK N i (c ++ [k]) k' := by
  refine .inr ⟨?_, k, by simp, hN⟩
  rcases h with ⟨rfl, rfl⟩ | ⟨hh, _⟩
  · rfl
  · cases c with
    | nil => cases hh
    | cons a c => simpa using hh
/-- the edges that begin at a point, behind k edges -/
def startsOf (E : List Edg) (k : Nat) (p : Int × Int) : List Int := ((List.range k).filter fun i => match E[i]? with | some f => decide (f.1 = p.1 ∧ f.2.1 = p.2) | none => false).map fun i : Nat => (i : Int)
theorem startsOf_zero (E : List Edg) : startsOf E 0 = fun _ => [] := rfl
theorem startsOf_len (E : List Edg) (k : Nat) (p : Int × Int) : (startsOf E k p).length ≤ k := by
  unfold startsOf
  rw [List.length_map]
  exact Nat.le_trans (List.length_filter_le _ _) (by rw [List.length_range]; exact Nat.le_refl _)
theorem startsOf_step {E : List Edg} {k : Nat} {f : Edg} (h : E[k]? = some f) : startsOf E (k + 1) = upd (startsOf E k) (f.1, f.2.1) (startsOf E k (f.1, f.2.1) ++ [(k : Int)]) := by
  funext p
  unfold startsOf
  rw [List.range_succ, List.filter_append, List.map_append]
  by_cases e : p = (f.1, f.2.1)
  · subst e
    rw [upd_same]
    simp [h]
  · rw [upd_other _ _ e]
    have : ¬ (f.1 = p.1 ∧ f.2.1 = p.2) := fun q => e (Prod.ext q.1.symm q.2.symm)
    simp [h, this]
theorem startsOf_at (E : List Edg) (p : Int × Int) : StartsAt E p.1 p.2 (startsOf E E.length p) := by
  intro v
  unfold startsOf
  rw [List.mem_map]
  constructor
  · rintro ⟨j, hj, rfl⟩
    obtain ⟨h1, h2⟩ := List.mem_filter.1 hj
    have hl := List.mem_range.1 h1
    rw [List.getElem?_eq_getElem hl] at h2
    simp at h2
    exact ⟨j, _, rfl, List.getElem?_eq_getElem hl, h2⟩
  · rintro ⟨j, f, rfl, hj, h1, h2⟩
    refine ⟨j, List.mem_filter.2 ⟨List.mem_range.2 (List.getElem?_eq_some_iff.1 hj).1, ?_⟩, rfl⟩
    rw [hj]
    simp [h1, h2]
theorem edges_bd {S : Pix} {L : List R4} (h : RegionOf S L) (hw : InWin S) : ∀ e ∈ edgesOf L, (-4096 ≤ e.1 ∧ e.1 ≤ 4096) ∧ (-4096 ≤ e.2.1 ∧ e.2.1 ≤ 4096) := by
  intro e he
  obtain ⟨r, hr, he⟩ := List.mem_flatMap.1 he
  have hb := empty_false ((h.geo hw).full r hr)
  obtain ⟨a1, a2⟩ := above_ok h hw r.2.1
  obtain ⟨b1, b2⟩ := below_ok h hw r.2.2.2
  rcases mem_rectE4 he with ⟨p, hp, rfl⟩ | rfl | ⟨p, hp, rfl⟩ | rfl
  · have := unc_in _ _ a1 a2 p hp
    dsimp only; omega
  · unfold downE; dsimp only; omega
  · have := unc_in _ _ b1 b2 p hp
    dsimp only; omega
  · unfold upE; dsimp only; omega
theorem EdgeSys.to_bd {S : Pix} {E : List Edg} (h : EdgeSys S E) (hb : ∀ e ∈ E, (-4096 ≤ e.1 ∧ e.1 ≤ 4096) ∧ (-4096 ≤ e.2.1 ∧ e.2.1 ≤ 4096)) {i : Nat} {e : Edg} (hi : E[i]? = some e) : (-4096 ≤ e.2.2.1 ∧ e.2.2.1 ≤ 4096) ∧ (-4096 ≤ e.2.2.2.1 ∧ e.2.2.2.1 ≤ 4096) := by
  obtain ⟨j, e', f, h1, h2, h3, h4, _⟩ := h.next hi
  rw [hi] at h1; injection h1 with h1; subst h1
  have := hb f (List.mem_of_getElem? h2)
  rw [h3, h4] at this
  exact this
end Go.Reg
