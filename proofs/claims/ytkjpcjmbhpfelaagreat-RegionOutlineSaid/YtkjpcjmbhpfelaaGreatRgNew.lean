/- made, New, two, Union, Intersect, Subtract, Equal, IsCanonical, Area, Bounds. -/
import Derived.Test.YtkjpcjmbhpfelaaGreatRgMade
set_option linter.unusedVariables false
set_option linter.unusedSimpArgs false
namespace Go.Reg
open Go.Proofs.YtkjpcjmbhpfelaaGreat
theorem RegionOf.congr {S T : Int → Int → Bool} {L : List R4} (h : RegionOf S L) (e : ∀ x y, S x y = T x y) : RegionOf T L := by
  obtain ⟨B, h1, h2, h3⟩ := h
  exact ⟨B, h1, fun x y => (h2 x y).trans (e x y), h3⟩
theorem InWin.congr {S T : Int → Int → Bool} (h : InWin S) (e : ∀ x y, T x y = S x y) : InWin T := fun x y k => h x y (by rw [← e]; exact k)
theorem keepS_win {keep : Bool → Bool → Bool} (hk : keep false false = false) (a b : List R4) : InWin (keepS keep a b) := fun x y h => by
  cases ha : inL a x y
  · cases hb : inL b x y
    · unfold keepS at h; rw [ha, hb, hk] at h; cases h
    · exact inL_win b x y hb
  · exact inL_win a x y ha
theorem keep_nil (l : List R4) (x y : Int) : keepS (fun p q => p || q) l [] x y = inL l x y := by simp [keepS, inL]
end Go.Reg
namespace Go.Proofs.YtkjpcjmbhpfelaaGreat
open Go.RowKit Go.Par Go.Reg

/-- what comes back: the region, or the limit's error -/
def RegRes (B : Nat) (S : Int → Int → Bool) (L : List R4) (v : Value) (er : Int) (w : World) : Prop :=
  RegionOf S L ∧ ((L.length ≤ 1024 ∧ er = 0 ∧ rectE.Own w B v L) ∨ (1024 < L.length ∧ er = 5 ∧ v = .slice none 0 0))
theorem RegRes.ext {B : Nat} {S : Int → Int → Bool} {L : List R4} {v : Value} {er : Int} {w w' : World} (h : RegRes B S L v er w) (he : Ext w w') : RegRes B S L v er w' :=
  ⟨h.1, h.2.imp (fun ⟨k1, k2, k3⟩ => ⟨k1, k2, k3.ext he⟩) id⟩
set_option maxHeartbeats 800000 in
theorem made_any (B : List Band) (ss : List BnS) (A : Option Addr) (n c : Nat) (w : World) (hn : ss.length = n) (hnb : n ≤ 1000000) (hA : bandE.At w A ss) (hB : BandsAt w ss B) (hlen : (rectsB B).length ≤ 100000000) :
    Calls Tryz.prog 27 #[.slice A n c] w fun e w' => ∃ v er, e = .returned (.tuple #[v, .int .i64 er]) ∧ Ext w w' ∧ (((rectsB B).length ≤ 1024 ∧ er = 0 ∧ rectE.Own w' w.heap.size v (rectsB B)) ∨ (1024 < (rectsB B).length ∧ er = 5 ∧ v = .slice none 0 0)) := by
  have H := Lib.hid (rects_any B ss A n c w hn hnb hA hB hlen)
  clear hn hA hB
  go_enter Tryz.func27, Tryz.ntmps27
  go_wp2_with fail
  refine H.out.mono ?_
  rintro e w1 ⟨v, rfl, hE, hown⟩
  obtain ⟨A1, c1, rfl, _, _⟩ := hown.len
  obtain ⟨N, hN⟩ : ∃ N, (rectsB B).length = N := ⟨_, rfl⟩
  rw [hN] at hlen ⊢
  have HN := Lib.hid hN
  have HO := Lib.hid hown
  clear hN hown
  by_cases h : 1024 < N
  · have d1 : ((1024 : Int) < (N : Int)) = True := eq_true (by omega)
    go_wp2
    exact bodyPost_ret (v := .tuple #[.slice none 0 0, .int .i64 5]) (by simp [results, Tryz.results27, go_sem, List.size_toArray]) rfl ⟨_, _, rfl, hE, .inr ⟨by rw [HN.out]; omega, rfl, rfl⟩⟩
  · have d1 : ((1024 : Int) < (N : Int)) = False := eq_false (by omega)
    have d2 : ¬ 1024 < N := h
    go_wp2
    exact bodyPost_ret (v := .tuple #[.slice A1 N c1, .int .i64 0]) (by simp [results, Tryz.results27, go_sem, List.size_toArray]) rfl ⟨_, _, rfl, hE, .inl ⟨by rw [HN.out]; omega, rfl, by have := HO.out; rw [HN.out] at this; exact this⟩⟩
/-- the bands of a region handed on to rects -/
theorem bands_next {S : Int → Int → Bool} (hw : InWin S) {B : List Band} (h1 : OKB B) (h2 : ∀ x y, inB B x y = S x y) : (rectsB B).length ≤ 67108864 ∧ RegionOf S (rectsB B) ∧ B.length ≤ 8192 := by
  have e : inB B = S := funext fun x => funext fun y => h2 x y
  have hww : InWin (inB B) := by rw [e]; exact hw
  refine ⟨rects_win h1 hww, ⟨B, h1, h2, rfl⟩, ?_⟩
  have h3 : B.length ≤ (rectsB B).length := by
    have hb := fun b hb => h1.runs_ne (b := b) hb
    clear h1 h2 e hww hw
    induction B with
    | nil => simp
    | cons b B ih =>
      have := ih fun c hc => hb c (List.mem_cons_of_mem _ hc)
      have k := hb b List.mem_cons_self
      have k2 : 0 < b.2.2.length := List.length_pos_iff.2 k
      have e : (rectsB (b :: B)).length = b.2.2.length + (rectsB B).length := by simp [rectsB]
      rw [e, List.length_cons]; omega
  have hb := h1.win hww
  have ho := OKB.ord h1.1
  have key : ∀ (B : List Band) (lo : Int), Ord B → (∀ b ∈ B, lo ≤ b.1 ∧ b.2.1 ≤ 4096) → lo ≤ 4096 → (B.length : Int) ≤ 4096 - lo := fun B => by
    induction B with
    | nil => intro lo _ _ h; simp; omega
    | cons b B ih =>
      intro lo ho hb hlo
      have k1 := hb b List.mem_cons_self
      have k2 := ho.2 b List.mem_cons_self
      have := ih b.2.1 ho.tail (fun c hc => ⟨(List.pairwise_cons.1 ho.1).1 c hc, (hb c (List.mem_cons_of_mem _ hc)).2⟩) (by omega)
      rw [List.length_cons]
      omega
  have := key B (-4096) ho (fun b hbm => by have := (hb b hbm).1; omega) (by omega)
  omega
set_option maxHeartbeats 800000 in
theorem two_any (a b : List R4) (A1 A2 : Option Addr) (n1 c1 n2 c2 : Nat) (f : FuncId) (keep : Bool → Bool → Bool) (w : World) (hn1 : a.length = n1) (hn2 : b.length = n2) (hb1 : n1 ≤ 1024) (hb2 : n2 ≤ 1024)
    (h1 : rectE.At w A1 a) (h2 : rectE.At w A2 b) (hK : KeepF f keep) (hk0 : keep false false = false) :
    Calls Tryz.prog 30 #[.slice A1 n1 c1, .slice A2 n2 c2, .func (.func f) #[] #[]] w fun e w' => ∃ v er L, e = .returned (.tuple #[v, .int .i64 er]) ∧ Ext w w' ∧ RegRes w.heap.size (keepS keep a b) L v er w' := by
  have H := Lib.hid (bands_any a b A1 A2 n1 c1 n2 c2 f keep w hn1 hn2 (by omega) (by omega) h1 h2 hK hk0)
  have HW := Lib.hid (keepS_win hk0 a b)
  have d1 : ((1024 : Int) < (n1 : Int)) = False := eq_false (by omega)
  have d2 : ((1024 : Int) < (n2 : Int)) = False := eq_false (by omega)
  have d3 : ¬ 1024 < n1 := by omega
  have d4 : ¬ 1024 < n2 := by omega
  clear hn1 hn2 h1 h2 hK hk0
  go_enter Tryz.func30, Tryz.ntmps30
  go_wp2_with fail
  refine H.out.mono ?_
  rintro e w1 ⟨v, ss, B, rfl, hE, hown, hba, hok, hin⟩
  obtain ⟨hl1, hreg, hl2⟩ := bands_next HW.out hok hin
  obtain ⟨A6, c6, rfl, hat⟩ := hown.at (n := ss.length) rfl (by rw [hba.1]; omega)
  have HM := Lib.hid (made_any B ss A6 ss.length c6 w1 rfl (by rw [hba.1]; omega) hat.2 hba (by omega))
  have HR := Lib.hid hreg
  clear hown hba hok hin hat hreg
  generalize ss.length = n at *
  go_wp2_with fail
  refine HM.out.mono ?_
  rintro e w2 ⟨v2, er, rfl, hE2, hres⟩
  have hs := hE.size
  have HRES := Lib.hid hres
  clear hres
  go_wp2
  exact bodyPost_ret (v := .tuple #[v2, .int .i64 er]) (by simp [results, Tryz.results30, go_sem, List.size_toArray]) rfl ⟨v2, er, rectsB B, rfl, hE.trans hE2, HR.out, HRES.out.imp (fun ⟨k1, k2, k3⟩ => ⟨k1, k2, k3.lower hs⟩) id⟩
set_option maxHeartbeats 800000 in
theorem two_long (A1 A2 : Option Addr) (n1 c1 n2 c2 : Nat) (fv : Value) (w : World) (h : 1024 < n1 ∨ 1024 < n2) :
    Calls Tryz.prog 30 #[.slice A1 n1 c1, .slice A2 n2 c2, fv] w fun e w' => e = .returned (.tuple #[.slice none 0 0, .int .i64 5]) ∧ Ext w w' := by
  go_enter Tryz.func30, Tryz.ntmps30
  by_cases h1 : 1024 < n1
  · have d1 : ((1024 : Int) < (n1 : Int)) = True := eq_true (by omega)
    clear h
    go_wp2
    exact bodyPost_ret (v := .tuple #[.slice none 0 0, .int .i64 5]) (by simp [results, Tryz.results30, go_sem, List.size_toArray]) rfl ⟨rfl, Ext.refl _⟩
  · have d1 : ((1024 : Int) < (n1 : Int)) = False := eq_false (by omega)
    have d2 : ((1024 : Int) < (n2 : Int)) = True := eq_true (by omega)
    have d3 : 1024 < n2 := by omega
    clear h
    go_wp2
    exact bodyPost_ret (v := .tuple #[.slice none 0 0, .int .i64 5]) (by simp [results, Tryz.results30, go_sem, List.size_toArray]) rfl ⟨rfl, Ext.refl _⟩
set_option maxHeartbeats 800000 in
theorem subt_any (a b : List R4) (A1 A2 : Option Addr) (n1 c1 n2 c2 : Nat) (w : World) (hn1 : a.length = n1) (hn2 : b.length = n2) (hb1 : n1 ≤ 1024) (hb2 : n2 ≤ 1024) (h1 : rectE.At w A1 a) (h2 : rectE.At w A2 b) :
    Calls Tryz.prog 10 #[.slice A1 n1 c1, .slice A2 n2 c2] w fun e w' => ∃ v er L, e = .returned (.tuple #[v, .int .i64 er]) ∧ Ext w w' ∧ RegRes w.heap.size (fun x y => inL a x y && !inL b x y) L v er w' := by
  have H := Lib.hid (two_any a b A1 A2 n1 c1 n2 c2 _ _ w hn1 hn2 hb1 hb2 h1 h2 sub_keep rfl)
  clear hn1 hn2 h1 h2
  go_enter Tryz.func10, Tryz.ntmps10
  go_wp2_with fail
  refine H.out.mono ?_
  rintro e w1 ⟨v, er, L, rfl, hE, hr⟩
  go_wp2
  exact bodyPost_ret (v := .tuple #[v, .int .i64 er]) (by simp [results, Tryz.results10, go_sem, List.size_toArray]) rfl ⟨v, er, L, rfl, hE, hr⟩
set_option maxHeartbeats 800000 in
theorem subt_long (A1 A2 : Option Addr) (n1 c1 n2 c2 : Nat) (w : World) (h : 1024 < n1 ∨ 1024 < n2) :
    Calls Tryz.prog 10 #[.slice A1 n1 c1, .slice A2 n2 c2] w fun e w' => e = .returned (.tuple #[.slice none 0 0, .int .i64 5]) ∧ Ext w w' := by
  have H := Lib.hid (two_long A1 A2 n1 c1 n2 c2 (.func (.func 31) #[] #[]) w h)
  clear h
  go_enter Tryz.func10, Tryz.ntmps10
  go_wp2_with fail
  refine H.out.mono ?_
  rintro e w1 ⟨rfl, hE⟩
  go_wp2
  exact bodyPost_ret (v := .tuple #[.slice none 0 0, .int .i64 5]) (by simp [results, Tryz.results10, go_sem, List.size_toArray]) rfl ⟨rfl, hE⟩
set_option maxHeartbeats 800000 in
theorem New_any (l : List R4) (A : Option Addr) (n c : Nat) (w : World) (hn : l.length = n) (hb : n ≤ 1024) (h1 : rectE.At w A l) :
    Calls Tryz.prog 9 #[.slice A n c] w fun e w' => ∃ v er L, e = .returned (.tuple #[v, .int .i64 er]) ∧ Ext w w' ∧ RegRes w.heap.size (inL l) L v er w' := by
  have H := Lib.hid (bands_any l [] A none n c 0 0 29 _ w hn rfl (by omega) (by omega) h1 (EL.At.nil _ _) either_keep rfl)
  have HW := Lib.hid (keepS_win (keep := fun p q => p || q) rfl l [])
  have d1 : ((1024 : Int) < (n : Int)) = False := eq_false (by omega)
  have d3 : ¬ 1024 < n := by omega
  clear hn h1
  go_enter Tryz.func9, Tryz.ntmps9
  go_wp2_with fail
  refine H.out.mono ?_
  rintro e w1 ⟨v, ss, B, rfl, hE, hown, hba, hok, hin⟩
  obtain ⟨hl1, hreg, hl2⟩ := bands_next HW.out hok hin
  obtain ⟨A6, c6, rfl, hat⟩ := hown.at (n := ss.length) rfl (by rw [hba.1]; omega)
  have HM := Lib.hid (made_any B ss A6 ss.length c6 w1 rfl (by rw [hba.1]; omega) hat.2 hba (by omega))
  have HR := Lib.hid (hreg.congr (keep_nil l))
  clear hown hba hok hin hat hreg
  generalize ss.length = n at *
  go_wp2_with fail
  refine HM.out.mono ?_
  rintro e w2 ⟨v2, er, rfl, hE2, hres⟩
  have hs := hE.size
  have HRES := Lib.hid hres
  clear hres
  go_wp2
  exact bodyPost_ret (v := .tuple #[v2, .int .i64 er]) (by simp [results, Tryz.results9, go_sem, List.size_toArray]) rfl ⟨v2, er, rectsB B, rfl, hE.trans hE2, HR.out, HRES.out.imp (fun ⟨k1, k2, k3⟩ => ⟨k1, k2, k3.lower hs⟩) id⟩
set_option maxHeartbeats 800000 in
theorem New_long (A : Option Addr) (n c : Nat) (w : World) (h : 1024 < n) :
    Calls Tryz.prog 9 #[.slice A n c] w fun e w' => e = .returned (.tuple #[.slice none 0 0, .int .i64 5]) ∧ Ext w w' := by
  have d1 : ((1024 : Int) < (n : Int)) = True := eq_true (by omega)
  go_enter Tryz.func9, Tryz.ntmps9
  go_wp2
  exact bodyPost_ret (v := .tuple #[.slice none 0 0, .int .i64 5]) (by simp [results, Tryz.results9, go_sem, List.size_toArray]) rfl ⟨rfl, Ext.refl _⟩
/-- the region of a slice, however many rectangles it has: rects(bands(l, nil, either)) -/
def WholeR (l : List R4) (L : List R4) : Prop := RegionOf (inL l) L ∧ L.length ≤ 67108864
end Go.Proofs.YtkjpcjmbhpfelaaGreat