/- The tiles of a bitmap in any order give the bitmap. No program stands here. -/
import Derived.Test.YtefdheoalonbaaaPart
import Derived.Test.YtefdheoalonbaaaAsmLaw
set_option linter.unusedVariables false
set_option linter.unusedSimpArgs false
namespace Go.Proofs.Ytefdheoalonbaaa
open Go.RowKit Go.Par

/-! ## the tiles of a bitmap, in any order, give the bitmap -/
theorem filter_one {α : Type} {f : α → Bool} : ∀ {l : List α} {k : Nat} {x : α}, l[k]? = some x → f x = true → (∀ j y, l[j]? = some y → f y = true → j = k) → (l.filter f).length = 1
  | [], k, x, hk, _, _ => by simp at hk
  | a :: l, 0, x, hk, hx, hu => by
    simp at hk
    subst hk
    have hn : l.filter f = [] := List.filter_eq_nil_iff.2 fun y hy => by
      obtain ⟨j, hj⟩ := List.mem_iff_getElem?.1 hy
      intro hf
      have := hu (j + 1) y (by simpa using hj) hf
      omega
    rw [List.filter_cons_of_pos hx, hn]; rfl
  | a :: l, k + 1, x, hk, hx, hu => by
    have ha : f a = false := by
      cases h : f a
      · rfl
      · have := hu 0 a rfl h; omega
    rw [List.filter_cons_of_neg (by rw [ha]; simp)]
    exact filter_one (by simpa using hk) hx fun j y hj hf => by
      have := hu (j + 1) y (by simpa using hj) hf
      omega
theorem inter_within {r t : R4} (hr : rectEmptyS r = false) (ht : rectEmptyS t = false) (h1 : r.1 ≤ t.1) (h2 : t.2.2.1 ≤ r.2.2.1) (h3 : r.2.1 ≤ t.2.1) (h4 : t.2.2.2 ≤ r.2.2.2) : interS r t = t := by
  unfold interS
  rw [canon_self hr, canon_self ht]
  have e : ((max r.1 t.1, max r.2.1 t.2.1, min r.2.2.1 t.2.2.1, min r.2.2.2 t.2.2.2) : R4) = t := by
    obtain ⟨a, b, c, d⟩ := t
    dsimp only at *
    simp only [Prod.mk.injEq]
    omega
  rw [e, canon_self ht]
theorem crop_px {s : BM} {t : R4} {x y : Int} (hh : rectHasS (interS s.1 t) x y = true) : pixAt (cropS s t) x y = pixAt s x y := by
  have hg := pix_get hh
  show (if rectHasS (interS s.1 t) x y then ((coordsR (interS s.1 t)).map fun p => pixAt s p.1 p.2).getD (pixS (interS s.1 t) x y).toNat (0, 0, 0, 0) else (0, 0, 0, 0)) = _
  rw [hh, if_pos rfl, List.getD_eq_getElem?_getD, List.getElem?_map, hg]; rfl
theorem crop_ok {s : BM} (hs : bmOk s = true) (t : R4) : bmOk (cropS s t) = true := by
  obtain ⟨hc, h2, h3, h4⟩ := bmOk_facts hs
  have hq := interS_canon s.1 t
  have hl := coords_length hq
  have har : areaR (interS s.1 t) ≤ areaR s.1 := by
    cases he : rectEmptyS (interS s.1 t)
    · obtain ⟨e0, e1, e2, e3, e4⟩ := inter_sub he hc
      obtain ⟨b1, b2, b3, b4, b5, b6⟩ := empty_false he
      unfold areaR
      rw [hq, hc]
      exact Int.mul_le_mul (by omega) (by omega) (by omega) (by omega)
    · have : areaR (interS s.1 t) = 0 := by
        unfold areaR
        rw [show rectCanonS (interS s.1 t) = (0, 0, 0, 0) from by unfold rectCanonS; rw [he]; rfl]; rfl
      have := (areaR_bd s.1).1
      omega
  have hall : ((coordsR (interS s.1 t)).map fun p => pixAt s p.1 p.2).all pxOk = true := by
    rw [List.all_eq_true]
    intro q hq2
    obtain ⟨p, hp, rfl⟩ := List.mem_map.1 hq2
    have hh := (mem_coords hq).1 hp
    rw [has_inter, Bool.and_eq_true] at hh
    exact List.all_eq_true.1 h4 _ (List.mem_of_getElem? (pixAt_get hs hh.1))
  unfold bmOk
  show (decide (rectCanonS (interS s.1 t) = interS s.1 t) && decide (areaR (interS s.1 t) ≤ 65536) && decide ((((coordsR (interS s.1 t)).map fun p => pixAt s p.1 p.2).length : Int) = areaR (interS s.1 t)) && ((coordsR (interS s.1 t)).map fun p => pixAt s p.1 p.2).all pxOk) = true
  rw [hall, hq, List.length_map, hl]
  simp
  omega
/-- the bitmaps of the tiles -/
def cutS (s : BM) (w h : Int) : List BM := (allT s.1 w h).map (cropS s)
theorem cut_ok {s : BM} (hs : bmOk s = true) (w h : Int) : ∀ b ∈ cutS s w h, bmOk b = true := fun b hb => by
  obtain ⟨t, _, rfl⟩ := List.mem_map.1 hb
  exact crop_ok hs t
theorem cut_cnt {s : BM} {w h : Int} (hs : bmOk s = true) (hv : validT s.1 w h = true) {p : XY} (hp : rectHasS s.1 p.1 p.2 = true) : cntAt (cutS s w h) p = 1 := by
  obtain ⟨k, t, hk, ht⟩ := tile_ex hv hp
  unfold cntAt cutS
  rw [List.filter_map, List.length_map]
  have hf : ∀ t : R4, ((fun b : BM => rectHasS b.1 p.1 p.2) ∘ cropS s) t = rectHasS t p.1 p.2 := fun t => by
    show rectHasS (interS s.1 t) p.1 p.2 = _
    rw [has_inter, hp, Bool.true_and]
  have := filter_one (f := (fun b : BM => rectHasS b.1 p.1 p.2) ∘ cropS s) hk (by rw [hf]; exact ht) fun j y hj hy => tile_uniq hv hj hk (by rw [← hf]; exact hy) ht
  omega
theorem cnt_perm {l m : List BM} (h : l.Perm m) (p : XY) : cntAt l p = cntAt m p := by
  unfold cntAt
  rw [(h.filter _).length_eq]
theorem last_of {v : P4} {p : XY} : ∀ (n : Nat) (l : List BM), l.length = n → (∀ b ∈ l, rectHasS b.1 p.1 p.2 = true → pixAt b p.1 p.2 = v) → 1 ≤ cntAt l p → lastAt l p = v := by
  intro n
  induction n with
  | zero => intro l hl _ h1; obtain rfl := List.eq_nil_of_length_eq_zero hl; exact absurd h1 (by unfold cntAt; simp)
  | succ n ih =>
    intro l hl hpx h1
    obtain ⟨l, b, rfl⟩ : ∃ m b, l = m ++ [b] := ⟨l.dropLast, l.getLast (fun e => by rw [e] at hl; simp at hl), (List.dropLast_concat_getLast _).symm⟩
    rw [lastAt_snoc]
    rw [cntAt_snoc] at h1
    cases hb : rectHasS b.1 p.1 p.2
    · rw [hb] at h1
      simp only [Bool.false_eq_true, if_false] at h1 ⊢
      exact ih l (by simp at hl; exact hl) (fun c hc => hpx c (List.mem_append_left _ hc)) (by omega)
    · rw [if_pos rfl]
      exact hpx b (by simp) hb
theorem cut_mem_px {s : BM} {w h : Int} {b : BM} (hb : b ∈ cutS s w h) {p : XY} (hh : rectHasS b.1 p.1 p.2 = true) : pixAt b p.1 p.2 = pixAt s p.1 p.2 := by
  obtain ⟨t, _, rfl⟩ := List.mem_map.1 hb
  exact crop_px hh
theorem mixed_whole {s : BM} {w h : Int} (hs : bmOk s = true) (hv : validT s.1 w h = true) {m : List BM} (hm : m.Perm (cutS s w h)) : asmCode s.1 m = 0 ∧ asmP s.1 m = s.2 := by
  obtain ⟨hc, _⟩ := bmOk_facts hs
  have h1 : ∀ p ∈ coordsR s.1, cntAt m p = 1 := fun p hp => by rw [cnt_perm hm]; exact cut_cnt hs hv ((mem_coords hc).1 hp)
  refine ⟨?_, ?_⟩
  · unfold asmCode
    rw [if_neg, if_neg]
    · simp only [List.any_eq_true, decide_eq_true_eq, not_exists, not_and]
      intro p hp; rw [h1 p hp]; omega
    · simp only [List.any_eq_true, decide_eq_true_eq, not_exists, not_and]
      intro p hp; rw [h1 p hp]; omega
  · rw [bm_eq hs]
    unfold asmP
    refine List.map_congr_left fun p hp => ?_
    exact last_of _ m rfl (fun b hb hh => cut_mem_px (hm.mem_iff.1 hb) hh) (by rw [h1 p hp]; exact Int.le_refl _)
theorem mixed_first {s : BM} {w h : Int} (hs : bmOk s = true) (hv : validT s.1 w h = true) {b : BM} {m : List BM} (hm : (b :: m).Perm (cutS s w h)) : ∃ p ∈ coordsR s.1, rectHasS b.1 p.1 p.2 = true := by
  obtain ⟨hc, _⟩ := bmOk_facts hs
  obtain ⟨t, ht, rfl⟩ := List.mem_map.1 (hm.mem_iff.1 (List.mem_cons_self ..))
  obtain ⟨f1, f2, f3, f4, f5, _⟩ := tile_facts hv ht
  obtain ⟨v1, _⟩ := validT_true hv
  obtain ⟨b1, b2, b3, b4, b5, b6⟩ := empty_false f1
  have h1 : rectHasS t t.1 t.2.1 = true := canon_has.2 ⟨f1, by omega, by omega, by omega, by omega⟩
  have h2 := tile_in hv ht h1
  exact ⟨(t.1, t.2.1), (mem_coords hc).2 h2, by show rectHasS (interS s.1 t) t.1 t.2.1 = true; rw [has_inter, h1, h2]; rfl⟩
theorem cnt_cons (b : BM) (m : List BM) (p : XY) : cntAt (b :: m) p = cntAt m p + if rectHasS b.1 p.1 p.2 then 1 else 0 := by
  unfold cntAt
  cases h : rectHasS b.1 p.1 p.2 <;> simp [h]
theorem mixed_less {s : BM} {w h : Int} (hs : bmOk s = true) (hv : validT s.1 w h = true) {b : BM} {m : List BM} (hm : (b :: m).Perm (cutS s w h)) : asmCode s.1 m = 8 := by
  obtain ⟨hc, _⟩ := bmOk_facts hs
  obtain ⟨p, hp, hb⟩ := mixed_first hs hv hm
  have h1 : cntAt (b :: m) p = 1 := by rw [cnt_perm hm]; exact cut_cnt hs hv ((mem_coords hc).1 hp)
  rw [cnt_cons, hb, if_pos rfl] at h1
  unfold asmCode
  rw [if_pos]
  rw [List.any_eq_true]
  exact ⟨p, hp, decide_eq_true (by omega)⟩
theorem mixed_more {s : BM} {w h : Int} (hs : bmOk s = true) (hv : validT s.1 w h = true) {b : BM} {m : List BM} (hm : (b :: m).Perm (cutS s w h)) : asmCode s.1 ((b :: m) ++ [b]) = 7 := by
  obtain ⟨hc, _⟩ := bmOk_facts hs
  obtain ⟨p, hp, hb⟩ := mixed_first hs hv hm
  have h1 : ∀ p ∈ coordsR s.1, cntAt (b :: m) p = 1 := fun p hp => by rw [cnt_perm hm]; exact cut_cnt hs hv ((mem_coords hc).1 hp)
  unfold asmCode
  rw [if_neg, if_pos]
  · rw [List.any_eq_true]
    exact ⟨p, hp, decide_eq_true (by rw [cntAt_snoc, h1 p hp, hb]; decide)⟩
  · simp only [List.any_eq_true, decide_eq_true_eq, not_exists, not_and]
    intro q hq
    rw [cntAt_snoc, h1 q hq]
    split <;> omega
/-- bitmaps in the order of a row of indices -/
def pickB (L : List BM) (o : List Int) : List BM := o.map fun i => L.getD i.toNat ((0, 0, 0, 0), [])
theorem pickB_perm {L : List BM} {o : List Int} (ho : o.Perm ((List.range L.length).map fun (k : Nat) => (k : Int))) : (pickB L o).Perm L := by
  have h := ho.map fun i : Int => L.getD i.toNat ((0, 0, 0, 0), [])
  rw [List.map_map] at h
  have e : (List.range L.length).map ((fun i : Int => L.getD i.toNat ((0, 0, 0, 0), [])) ∘ fun (k : Nat) => (k : Int)) = L := by
    refine List.ext_getElem? fun k => ?_
    rw [List.getElem?_map]
    by_cases hk : k < L.length
    · rw [List.getElem?_range hk]
      show some (L.getD (k : Int).toNat _) = _
      rw [Int.toNat_natCast, List.getD_eq_getElem?_getD, List.getElem?_eq_getElem hk]; rfl
    · rw [List.getElem?_eq_none (by rw [List.length_range]; omega), List.getElem?_eq_none (by omega)]; rfl
  rw [e] at h
  exact h
end Go.Proofs.Ytefdheoalonbaaa
