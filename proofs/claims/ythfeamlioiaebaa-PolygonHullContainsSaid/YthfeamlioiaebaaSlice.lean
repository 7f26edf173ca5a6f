/- Slices of points that read as lists. -/
import Derived.Test.YthfeamlioiaebaaVec
set_option linter.unusedVariables false
set_option linter.unusedSimpArgs false
namespace Go.Proofs.Ythfeamlioiaebaa
open Go.RowKit Go.Par

/-- the cells from the address on hold the points -/
def PtsAt (w : World) (A : Option Addr) (l : List P2) : Prop :=
  l ≠ [] → ∃ b o, A = some ⟨b, o, none⟩ ∧ ∀ i p, l[i]? = some p → w.cell? ⟨b, o + i * 2, none⟩ = some (.int .i64 p.1) ∧ w.cell? ⟨b, o + i * 2 + 1, none⟩ = some (.int .i64 p.2)
theorem PtsAt.ext {w w' : World} {A : Option Addr} {l : List P2} (h : PtsAt w A l) (he : Ext w w') : PtsAt w' A l := fun hl => by
  obtain ⟨b, o, e, hc⟩ := h hl
  exact ⟨b, o, e, fun i p hp => ⟨he.cell (hc i p hp).1, he.cell (hc i p hp).2⟩⟩
theorem PtsAt.nil (w : World) (A : Option Addr) : PtsAt w A [] := fun h => absurd rfl h
/-- a slice value that reads as a list of points -/
def Pts (w : World) (v : Value) (l : List P2) : Prop := ∃ A c, v = .slice A l.length c ∧ l.length ≤ c ∧ l.length ≤ 17592186044416 ∧ PtsAt w A l
theorem Pts.ext {w w' : World} {v : Value} {l : List P2} (h : Pts w v l) (he : Ext w w') : Pts w' v l := by
  obtain ⟨A, c, e, h1, h2, h3⟩ := h
  exact ⟨A, c, e, h1, h2, h3.ext he⟩
theorem Pts.stable (l : List P2) : Stable (fun v w => Pts w v l) := fun _ _ _ h he => h.ext he

def firstIdx (p : P2 → Bool) (l : List P2) : Int := match l.findIdx? p with | some i => i | none => -1

theorem firstIdx_some {p : P2 → Bool} {l : List P2} {k : Nat} {q : P2} (hk : l[k]? = some q) (hp : p q = true) (hno : ∀ j, j < k → ∀ q, l[j]? = some q → p q = false) : firstIdx p l = k := by
  unfold firstIdx
  have hlt := (List.getElem?_eq_some_iff.1 hk).1
  have : l.findIdx? p = some k := List.findIdx?_eq_some_iff_getElem.2 ⟨hlt, by rw [(List.getElem?_eq_some_iff.1 hk).2]; exact hp, fun j hj => by
    have := hno j hj _ (List.getElem?_eq_getElem (by omega)); simp [this]⟩
  rw [this]
theorem firstIdx_none {p : P2 → Bool} {l : List P2} (hno : ∀ (j : Nat) (q : P2), l[j]? = some q → p q = false) : firstIdx p l = -1 := by
  unfold firstIdx
  have : l.findIdx? p = none := List.findIdx?_eq_none_iff.2 fun x hx => by
    obtain ⟨j, hj⟩ := List.mem_iff_getElem?.1 hx
    exact hno j x hj
  rw [this]

set_option maxRecDepth 100000 in
set_option maxHeartbeats 400000 in
theorem indexFunc_any (f : FuncId) (cap : Array Value) (p : P2 → Bool) (l : List P2) (A : Option Addr) (c : Nat) (w : World) (hc : l.length ≤ 9223372036854775807) (hl : PtsAt w A l)
    (hcall : ∀ args w, (callFunc f args).run Try.prog w = .ok (.enter f args) w)
    (hf : ∀ x y w1, Ext w w1 → (x, y) ∈ l → Calls Try.prog f (#[.agg #[.int .i64 x, .int .i64 y]] ++ cap) w1 fun e w' => e = .returned (.bool (p (x, y))) ∧ Ext w1 w') :
    Calls Try.prog 91 #[.slice A l.length c, .func (.func f) #[] cap] w fun e w' => e = .returned (.int .i64 (firstIdx p l)) ∧ Ext w w' := by
  obtain ⟨n, hn⟩ : ∃ n, n = l.length := ⟨_, rfl⟩
  rw [← hn]
  have HN := Lib.hid hn
  rw [← hn] at hc
  clear hn
  have HF := Lib.hid hf
  clear hf
  go_enter Try.func91, Try.ntmps91
  go_wp2_with fail
  go_loopw [5, 8] (fun _ i wr => ∃ k : Nat, k ≤ n ∧ i = .int .i64 k ∧ Ext w wr ∧ ∀ j, j < k → ∀ q, l[j]? = some q → p q = false) (fun _ i _ => n - (intOf i).toNat)
  case atStart => exact ⟨0, Nat.zero_le _, rfl, Ext.refl _, fun j hj => by omega⟩
  case round =>
    obtain ⟨k, hk, rfl, hE, hno⟩ := hrel
    have Hno := Lib.hid hno
    clear hno
    by_cases hlt : k < n
    · obtain ⟨⟨x, y⟩, hlk⟩ : ∃ q, l[k]? = some q := ⟨_, List.getElem?_eq_getElem (by rw [← HN.out]; exact hlt)⟩
      obtain ⟨b, o, rfl, hcell⟩ := hl (fun e => by rw [e] at hlk; simp at hlk)
      have c0 := hE.cell (hcell k _ hlk).1
      have c1 := hE.cell (hcell k _ hlk).2
      have HL := Lib.hid hlk
      clear hlk hcell
      go_wp2_with fail
      refine (HF.out x y _ hE (List.mem_of_getElem? HL.out)).mono ?_
      rintro e w1 ⟨rfl, hE1⟩
      have hE2 := hE.trans hE1
      cases hp : p (x, y)
      · go_wp2
        go_roundw
        case rel =>
          refine ⟨k + 1, by omega, by go_num, hE2, fun j hj q hq => ?_⟩
          by_cases hjk : j = k
          · subst hjk; rw [HL.out] at hq; injection hq with hq; rw [← hq, hp]
          · exact Hno.out j (by omega) q hq
        case measure => simp [intOf]; omega
      · go_wp2
        go_ret
        exact ⟨ret_eq (by rw [firstIdx_some HL.out hp Hno.out]; rfl), hE2⟩
    · go_wp2
      go_ret
      have e : firstIdx p l = -1 := firstIdx_none fun j q hq => Hno.out j (by have := (List.getElem?_eq_some_iff.1 hq).1; rw [← HN.out] at this; omega) q hq
      exact ⟨ret_eq (by rw [e]; rfl), hE⟩
theorem firstIdx_ge (p : P2 → Bool) (l : List P2) : (0 ≤ firstIdx p l) = (l.any p = true) := by
  unfold firstIdx
  cases h : l.findIdx? p with
  | none =>
    simp only [List.findIdx?_eq_none_iff] at h
    simp only [List.any_eq_true, eq_iff_iff]
    exact ⟨fun h0 => absurd h0 (by decide), fun ⟨x, hx, hp⟩ => by rw [h x hx] at hp; cases hp⟩
  | some i =>
    have := List.findIdx?_eq_some_iff_getElem.1 h
    obtain ⟨hi, hp, _⟩ := this
    simp only [List.any_eq_true, eq_iff_iff]
    exact ⟨fun _ => ⟨_, List.getElem_mem hi, hp⟩, fun _ => Int.natCast_nonneg _⟩
theorem containsFunc_any (f : FuncId) (cap : Array Value) (p : P2 → Bool) (l : List P2) (A : Option Addr) (c : Nat) (w : World) (hc : l.length ≤ 9223372036854775807) (hl : PtsAt w A l)
    (hcall : ∀ args w, (callFunc f args).run Try.prog w = .ok (.enter f args) w)
    (hf : ∀ x y w1, Ext w w1 → (x, y) ∈ l → Calls Try.prog f (#[.agg #[.int .i64 x, .int .i64 y]] ++ cap) w1 fun e w' => e = .returned (.bool (p (x, y))) ∧ Ext w1 w') :
    Calls Try.prog 61 #[.slice A l.length c, .func (.func f) #[] cap] w fun e w' => e = .returned (.bool (l.any p)) ∧ Ext w w' := by
  have H := Lib.hid (indexFunc_any f cap p l A c w hc hl hcall hf)
  clear hc hl hf hcall
  generalize l.length = n at *
  go_enter Try.func61, Try.ntmps61
  go_wp2_with fail
  refine H.out.mono ?_
  rintro e w1 ⟨rfl, hE⟩
  go_wp2
  go_ret
  exact ⟨ret_eq (by simp only [firstIdx_ge]; simp), hE⟩

/-- the cells from the address on hold slices of points -/
def RingsAt (w : World) (A : Option Addr) (L : List (List P2)) : Prop :=
  L ≠ [] → ∃ b o, A = some ⟨b, o, none⟩ ∧ ∀ i r, L[i]? = some r → ∃ v, w.cell? ⟨b, o + i, none⟩ = some v ∧ Pts w v r
theorem RingsAt.ext {w w' : World} {A : Option Addr} {L : List (List P2)} (h : RingsAt w A L) (he : Ext w w') : RingsAt w' A L := fun hl => by
  obtain ⟨b, o, e, hc⟩ := h hl
  refine ⟨b, o, e, fun i r hr => ?_⟩
  obtain ⟨v, h1, h2⟩ := hc i r hr
  exact ⟨v, he.cell h1, h2.ext he⟩
def Rings (w : World) (v : Value) (L : List (List P2)) : Prop := ∃ A c, v = .slice A L.length c ∧ L.length ≤ c ∧ L.length ≤ 17592186044416 ∧ RingsAt w A L
theorem Rings.ext {w w' : World} {v : Value} {L : List (List P2)} (h : Rings w v L) (he : Ext w w') : Rings w' v L := by
  obtain ⟨A, c, e, h1, h2, h3⟩ := h
  exact ⟨A, c, e, h1, h2, h3.ext he⟩
theorem Rings.stable (L : List (List P2)) : Stable (fun v w => Rings w v L) := fun _ _ _ h he => h.ext he

def lenS (L : List (List P2)) : Nat := (L.map List.length).sum
def validL (L : List (List P2)) : Bool := decide (lenS L ≤ 4096) && L.all fun r => r.all validS
theorem lenS_take_succ {L : List (List P2)} {k : Nat} {r : List P2} (h : L[k]? = some r) : lenS (L.take (k + 1)) = lenS (L.take k) + r.length := by
  unfold lenS
  rw [List.take_add_one, h]
  simp
theorem lenS_take_le (L : List (List P2)) (k : Nat) : lenS (L.take k) ≤ lenS L := by
  have e : lenS L = lenS (L.take k) + lenS (L.drop k) := by
    unfold lenS
    rw [← List.sum_append, ← List.map_append, List.take_append_drop]
  omega
theorem all_take_succ {L : List (List P2)} {k : Nat} {r : List P2} {p : List P2 → Bool} (h : L[k]? = some r) : (L.take (k + 1)).all p = ((L.take k).all p && p r) := by
  rw [List.take_add_one, h]
  simp
end Go.Proofs.Ythfeamlioiaebaa
