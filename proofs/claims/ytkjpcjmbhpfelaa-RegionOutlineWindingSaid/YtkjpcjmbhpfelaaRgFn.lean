/- slices.ContainsFunc at rectangles and at runs; within, Contains. -/
import Derived.Test.YtkjpcjmbhpfelaaRgEq
set_option linter.unusedVariables false
set_option linter.unusedSimpArgs false
namespace Go.Proofs.Ytkjpcjmbhpfelaa
open Go.RowKit Go.Par Go.Reg

def firstIdx {α : Type} (p : α → Bool) (l : List α) : Int := match l.findIdx? p with | some i => i | none => -1
theorem firstIdx_some {α : Type} {p : α → Bool} {l : List α} {k : Nat} {q : α} (hk : l[k]? = some q) (hp : p q = true) (hno : ∀ j, j < k → ∀ q, l[j]? = some q → p q = false) : firstIdx p l = k := by
  unfold firstIdx
  have hlt := (List.getElem?_eq_some_iff.1 hk).1
  have : l.findIdx? p = some k := List.findIdx?_eq_some_iff_getElem.2 ⟨hlt, by rw [(List.getElem?_eq_some_iff.1 hk).2]; exact hp, fun j hj => by
    have := hno j hj _ (List.getElem?_eq_getElem (by omega)); simp [this]⟩
  rw [this]
theorem firstIdx_none {α : Type} {p : α → Bool} {l : List α} (hno : ∀ (j : Nat) (q : α), l[j]? = some q → p q = false) : firstIdx p l = -1 := by
  unfold firstIdx
  have : l.findIdx? p = none := List.findIdx?_eq_none_iff.2 fun x hx => by
    obtain ⟨j, hj⟩ := List.mem_iff_getElem?.1 hx
    exact hno j x hj
  rw [this]
theorem firstIdx_ge {α : Type} (p : α → Bool) (l : List α) : (0 ≤ firstIdx p l) = (l.any p = true) := by
  unfold firstIdx
  cases h : l.findIdx? p with
  | none =>
    simp only [List.findIdx?_eq_none_iff] at h
    simp only [List.any_eq_true, eq_iff_iff]
    exact ⟨fun h0 => absurd h0 (by decide), fun ⟨x, hx, hp⟩ => by rw [h x hx] at hp; cases hp⟩
  | some i =>
    have := List.findIdx?_eq_some_iff_getElem.1 h
    obtain ⟨hi, hp, _⟩ := this
    simp only [List.any_eq_true, eq_iff_iff]
    exact ⟨fun _ => ⟨_, List.getElem_mem hi, hp⟩, fun _ => Int.natCast_nonneg _⟩
set_option maxHeartbeats 800000 in
theorem idxRect_any (f : FuncId) (cap : Array Value) (p : R4 → Bool) (l : List R4) (A : Option Addr) (c : Nat) (w : World) (hc : l.length ≤ 9223372036854775807) (hl : rectE.At w A l)
    (hcall : ∀ args w, (callFunc f args).run Try.prog w = .ok (.enter f args) w)
    (hf : ∀ x0 x1 x2 x3 w1, Ext w w1 → (x0, x1, x2, x3) ∈ l → Calls Try.prog f (#[.agg #[.int .i64 x0, .int .i64 x1, .int .i64 x2, .int .i64 x3]] ++ cap) w1 fun e w' => e = .returned (.bool (p (x0, x1, x2, x3))) ∧ Ext w1 w') :
    Calls Try.prog 79 #[.slice A l.length c, .func (.func f) #[] cap] w fun e w' => e = .returned (.int .i64 (firstIdx p l)) ∧ Ext w w' := by
  obtain ⟨n, hn⟩ : ∃ n, n = l.length := ⟨_, rfl⟩
  rw [← hn]
  have HN := Lib.hid hn
  rw [← hn] at hc
  clear hn
  have HF := Lib.hid hf
  clear hf
  go_enter Try.func79, Try.ntmps79
  go_wp2_with fail
  go_loopw [5, 8] (fun _ i wr => ∃ k : Nat, k ≤ n ∧ i = .int .i64 k ∧ Ext w wr ∧ ∀ j, j < k → ∀ q, l[j]? = some q → p q = false) (fun _ i _ => n - (intOf i).toNat)
  case atStart => exact ⟨0, Nat.zero_le _, rfl, Ext.refl _, fun j hj => by omega⟩
  case round =>
    obtain ⟨k, hk, rfl, hE, hno⟩ := hrel
    have Hno := Lib.hid hno
    clear hno
    by_cases hlt : k < n
    · obtain ⟨⟨x0, x1, x2, x3⟩, hlk⟩ : ∃ q, l[k]? = some q := ⟨_, List.getElem?_eq_getElem (by rw [← HN.out]; exact hlt)⟩
      obtain ⟨b, o, rfl⟩ := hl.addr hlk
      obtain ⟨e0, e1, e2, e3⟩ := rect_cell hl hlk
      replace e0 := hE.cell e0
      replace e1 := hE.cell e1
      replace e2 := hE.cell e2
      replace e3 := hE.cell e3
      dsimp only at e0 e1 e2 e3
      have HL := Lib.hid hlk
      clear hlk
      go_wp2_with fail
      refine (HF.out x0 x1 x2 x3 _ hE (List.mem_of_getElem? HL.out)).mono ?_
      rintro e w1 ⟨rfl, hE1⟩
      have hE2 := hE.trans hE1
      cases hp : p (x0, x1, x2, x3)
      · go_wp2
        go_roundw
        case rel =>
          refine ⟨k + 1, by omega, by go_num, hE2, fun j hj q hq => ?_⟩
          by_cases hjk : j = k
          · subst hjk; rw [HL.out] at hq; injection hq with hq; rw [← hq, hp]
          · exact Hno.out j (by omega) q hq
        case measure => simp [intOf]; omega
      · go_wp2
        go_ret
        exact ⟨ret_eq (by rw [firstIdx_some HL.out hp Hno.out]; rfl), hE2⟩
    · go_wp2
      go_ret
      have e : firstIdx p l = -1 := firstIdx_none fun j q hq => Hno.out j (by have := (List.getElem?_eq_some_iff.1 hq).1; rw [← HN.out] at this; omega) q hq
      exact ⟨ret_eq (by rw [e]; rfl), hE⟩
theorem hasRect_any (f : FuncId) (cap : Array Value) (p : R4 → Bool) (l : List R4) (A : Option Addr) (c : Nat) (w : World) (hc : l.length ≤ 9223372036854775807) (hl : rectE.At w A l)
    (hcall : ∀ args w, (callFunc f args).run Try.prog w = .ok (.enter f args) w)
    (hf : ∀ x0 x1 x2 x3 w1, Ext w w1 → (x0, x1, x2, x3) ∈ l → Calls Try.prog f (#[.agg #[.int .i64 x0, .int .i64 x1, .int .i64 x2, .int .i64 x3]] ++ cap) w1 fun e w' => e = .returned (.bool (p (x0, x1, x2, x3))) ∧ Ext w1 w') :
    Calls Try.prog 53 #[.slice A l.length c, .func (.func f) #[] cap] w fun e w' => e = .returned (.bool (l.any p)) ∧ Ext w w' := by
  have H := Lib.hid (idxRect_any f cap p l A c w hc hl hcall hf)
  clear hc hl hf hcall
  generalize l.length = n at *
  go_enter Try.func53, Try.ntmps53
  go_wp2_with fail
  refine H.out.mono ?_
  rintro e w1 ⟨rfl, hE⟩
  go_wp2
  go_ret
  exact ⟨ret_eq (by simp only [firstIdx_ge]; simp), hE⟩
set_option maxHeartbeats 800000 in
theorem idxRun_any (f : FuncId) (cap : Array Value) (p : Run → Bool) (l : List Run) (A : Option Addr) (c : Nat) (w : World) (hc : l.length ≤ 9223372036854775807) (hl : runE.At w A l)
    (hcall : ∀ args w, (callFunc f args).run Try.prog w = .ok (.enter f args) w)
    (hf : ∀ x0 x1 w1, Ext w w1 → (x0, x1) ∈ l → Calls Try.prog f (#[.agg #[.int .i64 x0, .int .i64 x1]] ++ cap) w1 fun e w' => e = .returned (.bool (p (x0, x1))) ∧ Ext w1 w') :
    Calls Try.prog 134 #[.slice A l.length c, .func (.func f) #[] cap] w fun e w' => e = .returned (.int .i64 (firstIdx p l)) ∧ Ext w w' := by
  obtain ⟨n, hn⟩ : ∃ n, n = l.length := ⟨_, rfl⟩
  rw [← hn]
  have HN := Lib.hid hn
  rw [← hn] at hc
  clear hn
  have HF := Lib.hid hf
  clear hf
  go_enter Try.func134, Try.ntmps134
  go_wp2_with fail
  go_loopw [5, 8] (fun _ i wr => ∃ k : Nat, k ≤ n ∧ i = .int .i64 k ∧ Ext w wr ∧ ∀ j, j < k → ∀ q, l[j]? = some q → p q = false) (fun _ i _ => n - (intOf i).toNat)
  case atStart => exact ⟨0, Nat.zero_le _, rfl, Ext.refl _, fun j hj => by omega⟩
  case round =>
    obtain ⟨k, hk, rfl, hE, hno⟩ := hrel
    have Hno := Lib.hid hno
    clear hno
    by_cases hlt : k < n
    · obtain ⟨⟨x0, x1⟩, hlk⟩ : ∃ q, l[k]? = some q := ⟨_, List.getElem?_eq_getElem (by rw [← HN.out]; exact hlt)⟩
      obtain ⟨b, o, rfl⟩ := hl.addr hlk
      obtain ⟨e0, e1⟩ := run_cell hl hlk
      replace e0 := hE.cell e0
      replace e1 := hE.cell e1
      dsimp only at e0 e1
      have HL := Lib.hid hlk
      clear hlk
      go_wp2_with fail
      refine (HF.out x0 x1 _ hE (List.mem_of_getElem? HL.out)).mono ?_
      rintro e w1 ⟨rfl, hE1⟩
      have hE2 := hE.trans hE1
      cases hp : p (x0, x1)
      · go_wp2
        go_roundw
        case rel =>
          refine ⟨k + 1, by omega, by go_num, hE2, fun j hj q hq => ?_⟩
          by_cases hjk : j = k
          · subst hjk; rw [HL.out] at hq; injection hq with hq; rw [← hq, hp]
          · exact Hno.out j (by omega) q hq
        case measure => simp [intOf]; omega
      · go_wp2
        go_ret
        exact ⟨ret_eq (by rw [firstIdx_some HL.out hp Hno.out]; rfl), hE2⟩
    · go_wp2
      go_ret
      have e : firstIdx p l = -1 := firstIdx_none fun j q hq => Hno.out j (by have := (List.getElem?_eq_some_iff.1 hq).1; rw [← HN.out] at this; omega) q hq
      exact ⟨ret_eq (by rw [e]; rfl), hE⟩
theorem hasRun_any (f : FuncId) (cap : Array Value) (p : Run → Bool) (l : List Run) (A : Option Addr) (c : Nat) (w : World) (hc : l.length ≤ 9223372036854775807) (hl : runE.At w A l)
    (hcall : ∀ args w, (callFunc f args).run Try.prog w = .ok (.enter f args) w)
    (hf : ∀ x0 x1 w1, Ext w w1 → (x0, x1) ∈ l → Calls Try.prog f (#[.agg #[.int .i64 x0, .int .i64 x1]] ++ cap) w1 fun e w' => e = .returned (.bool (p (x0, x1))) ∧ Ext w1 w') :
    Calls Try.prog 119 #[.slice A l.length c, .func (.func f) #[] cap] w fun e w' => e = .returned (.bool (l.any p)) ∧ Ext w w' := by
  have H := Lib.hid (idxRun_any f cap p l A c w hc hl hcall hf)
  clear hc hl hf hcall
  generalize l.length = n at *
  go_enter Try.func119, Try.ntmps119
  go_wp2_with fail
  refine H.out.mono ?_
  rintro e w1 ⟨rfl, hE⟩
  go_wp2
  go_ret
  exact ⟨ret_eq (by simp only [firstIdx_ge]; simp), hE⟩
set_option maxHeartbeats 800000 in
theorem withinC_any (f t x : Int) (b : Nat) (w : World) (hb : w.cell? ⟨b, 0, none⟩ = some (.int .i64 x)) :
    Calls Try.prog 120 #[.agg #[.int .i64 f, .int .i64 t], .pointer (some ⟨b, 0, none⟩)] w fun e w' => e = .returned (.bool (decide (f ≤ x) && decide (x < t))) ∧ Ext w w' := by
  go_enter Try.func120, Try.ntmps120
  go_wp2
  all_goals (go_ret; exact ⟨ret_eq (by simp [*] <;> omega), Ext.alloc _ _⟩)
set_option maxRecDepth 100000 in
set_option maxHeartbeats 800000 in
theorem within_any (l : List Run) (A : Option Addr) (n c : Nat) (x : Int) (w : World) (hn : l.length = n) (hc : n ≤ 17592186044416) (hl : runE.At w A l) :
    Calls Try.prog 89 #[.slice A n c, .int .i64 x] w fun e w' => e = .returned (.bool (inRuns l x)) ∧ Ext w w' := by
  have HC := Lib.hid (fun (W : World) (b : Nat) (k : Ext w W) (hb : W.cell? ⟨b, 0, none⟩ = some (.int .i64 x)) => hasRun_any 120 #[.pointer (some ⟨b, 0, none⟩)] (fun r => decide (r.1 ≤ x) && decide (x < r.2)) l A c W (by omega) (hl.ext k) (fun _ _ => rfl) (fun x0 x1 w1 k1 _ => withinC_any x0 x1 x b w1 (k1.cell hb)))
  rw [hn] at HC
  clear hn hl
  go_enter Try.func89, Try.ntmps89
  have hE := Ext.alloc w (.cells #[.int .i64 x] 3)
  have b2 := Box.new w 3 #[.int .i64 x]
  have hb := b2.cell 0
  go_wp2_with fail
  refine (HC.out _ _ hE hb).mono ?_
  rintro e w1 ⟨rfl, hE1⟩
  go_wp2
  go_ret
  exact ⟨rfl, hE.trans hE1⟩
set_option maxHeartbeats 800000 in
theorem pContainsC_any (a b c d x y : Int) (bx bb : Nat) (w : World) (hb : w.cell? ⟨bx, 0, none⟩ = some (.int .i64 x)) (hb2 : w.cell? ⟨bb, 0, none⟩ = some (.int .i64 y)) :
    Calls Try.prog 54 #[.agg #[.int .i64 a, .int .i64 b, .int .i64 c, .int .i64 d], .pointer (some ⟨bx, 0, none⟩), .pointer (some ⟨bb, 0, none⟩)] w fun e w' => e = .returned (.bool (hasR (a, b, c, d) x y)) ∧ Ext w w' := by
  have H := Lib.hid (fun W => pHas_any a b c d x y W)
  rw [← has_eq] at H
  have hE := Ext.alloc w (.cells #[.int .i64 a, .int .i64 b, .int .i64 c, .int .i64 d] 29)
  have k1 := hE.cell hb
  have k2 := hE.cell hb2
  clear hb hb2
  go_enter Try.func54, Try.ntmps54
  go_wp2_with fail
  refine (H.out _).mono ?_
  rintro e w1 ⟨rfl, hE1⟩
  go_wp2
  go_ret
  exact ⟨rfl, hE.trans hE1⟩
set_option maxRecDepth 100000 in
set_option maxHeartbeats 800000 in
theorem pContains_any (l : List R4) (A : Option Addr) (n c : Nat) (x y : Int) (w : World) (hn : l.length = n) (hc : n ≤ 17592186044416) (hl : rectE.At w A l) :
    Calls Try.prog 26 #[.slice A n c, .int .i64 x, .int .i64 y] w fun e w' => e = .returned (.bool (inL l x y)) ∧ Ext w w' := by
  have HC := Lib.hid (fun (W : World) (b b' : Nat) (k : Ext w W) (hb : W.cell? ⟨b, 0, none⟩ = some (.int .i64 x)) (hb' : W.cell? ⟨b', 0, none⟩ = some (.int .i64 y)) => hasRect_any 54 #[.pointer (some ⟨b, 0, none⟩), .pointer (some ⟨b', 0, none⟩)] (fun r => hasR r x y) l A c W (by omega) (hl.ext k) (fun _ _ => rfl) (fun x0 x1 x2 x3 w1 k1 _ => pContainsC_any x0 x1 x2 x3 x y b b' w1 (k1.cell hb) (k1.cell hb')))
  rw [hn] at HC
  clear hn hl
  go_enter Try.func26, Try.ntmps26
  have hE := (Ext.alloc w (.cells #[.int .i64 x] 3)).trans (Ext.alloc _ (.cells #[.int .i64 y] 3))
  have hb := ((Box.new w 3 #[.int .i64 x]).alloc (.cells #[.int .i64 y] 3)).cell 0
  have hb2 := (Box.at1 (w := w) (o := .cells #[.int .i64 x] 3) (t := 3) (cs := #[.int .i64 y])).cell 0
  go_wp2_with fail
  refine (HC.out _ _ _ hE hb hb2).mono ?_
  rintro e w1 ⟨rfl, hE1⟩
  go_wp2
  go_ret
  exact ⟨rfl, hE.trans hE1⟩
end Go.Proofs.Ytkjpcjmbhpfelaa
