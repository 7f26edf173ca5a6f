/- rects, made, New, two and what is made of them. -/
import Derived.Test.YtkjpcjmbhpfelaaGreatRgBands
set_option linter.unusedVariables false
set_option linter.unusedSimpArgs false
namespace Go.Proofs.YtkjpcjmbhpfelaaGreat
open Go.RowKit Go.Par Go.Reg

theorem rectsB_append (B C : List Band) : rectsB (B ++ C) = rectsB B ++ rectsB C := List.flatMap_append
def rectsOf (b : Band) (rs : List Run) : List R4 := rs.map fun r => (r.1, b.1, r.2, b.2.1)
theorem rectsB_one (b : Band) : rectsB [b] = rectsOf b b.2.2 := by simp [rectsB, rectsOf]
theorem rects_in {B : List Band} {k : Nat} {b : Band} (h : B[k]? = some b) (j : Nat) : (rectsB (B.take k) ++ rectsOf b (b.2.2.take j)).length ≤ (rectsB B).length := by
  have e : rectsB B = rectsB (B.take (k + 1)) ++ rectsB (B.drop (k + 1)) := by rw [← rectsB_append, List.take_append_drop]
  rw [e, take_snocG h, rectsB_append, rectsB_one]
  simp only [List.length_append, rectsOf, List.length_map, List.length_take]
  omega
theorem rects_win {B : List Band} (h : OKB B) (hw : InWin (inB B)) : (rectsB B).length ≤ 67108864 := by
  have hb := h.win hw
  have h1 : ∀ b ∈ B, b.2.2.length ≤ 8192 := fun b hbm => by
    have := okr_len (h.2 b hbm) (lo := -4096) (hi := 4096) (fun r hr => by have := (hb b hbm).2 r hr; omega) (by omega)
    omega
  have h2 : (B.length : Int) ≤ 8192 := by
    have ho := OKB.ord h.1
    have key : ∀ (B : List Band) (lo : Int), Ord B → (∀ b ∈ B, lo ≤ b.1 ∧ b.2.1 ≤ 4096) → lo ≤ 4096 → (B.length : Int) ≤ 4096 - lo := fun B => by
      induction B with
      | nil => intro lo _ _ h; simp; omega
      | cons b B ih =>
        intro lo ho hb hlo
        have k1 := hb b List.mem_cons_self
        have k2 := ho.2 b List.mem_cons_self
        have := ih b.2.1 ho.tail (fun c hc => ⟨(List.pairwise_cons.1 ho.1).1 c hc, (hb c (List.mem_cons_of_mem _ hc)).2⟩) (by omega)
        rw [List.length_cons]
        omega
    exact key B (-4096) ho (fun b hbm => by have := (hb b hbm).1; omega) (by omega)
  have h3 : (rectsB B).length ≤ B.length * 8192 := by
    clear h2 hb h hw
    induction B with
    | nil => simp [rectsB]
    | cons b B ih =>
      have k := h1 b List.mem_cons_self
      have := ih fun c hc => h1 c (List.mem_cons_of_mem _ hc)
      have e : (rectsB (b :: B)).length = b.2.2.length + (rectsB B).length := by simp [rectsB]
      rw [e, List.length_cons, Nat.add_mul]
      omega
  omega
set_option maxRecDepth 100000 in
set_option maxHeartbeats 1600000 in
theorem rects_any (B : List Band) (ss : List BnS) (A : Option Addr) (n c : Nat) (w : World) (hn : ss.length = n) (hnb : n ≤ 1000000) (hA : bandE.At w A ss) (hB : BandsAt w ss B) (hlen : (rectsB B).length ≤ 100000000) :
    Calls Tryz.prog 32 #[.slice A n c] w fun e w' => ∃ v, e = .returned v ∧ Ext w w' ∧ rectE.Own w' w.heap.size v (rectsB B) := by
  have HN := Lib.hid (show B.length = n from by rw [← hn, hB.1])
  have HL := Lib.hid hlen
  clear hn hlen
  go_enter Tryz.func32, Tryz.ntmps32
  go_wp2_with fail
  go_loopw [3, 10] (fun s i wr => ∃ k : Nat, k ≤ n ∧ i = .int .i64 k ∧ Ext w wr ∧ rectE.Own wr w.heap.size s (rectsB (B.take k))) (fun _ i _ => n - (intOf i).toNat)
  case atStart => exact ⟨0, Nat.zero_le _, rfl, Ext.refl _, EL.Own.nil _ _⟩
  case round =>
    obtain ⟨k, hk, rfl, hE, hown⟩ := hrel
    by_cases hlt : k < n
    · have dk : ((k : Int) < (n : Int)) = True := eq_true (by omega)
      obtain ⟨⟨y0, y1, rs⟩, hlk⟩ : ∃ q, B[k]? = some q := ⟨_, List.getElem?_eq_getElem (by rw [HN.out]; exact hlt)⟩
      obtain ⟨A1, n1, c1, hsk, hn1, hn1c, hn1b, hrx⟩ := hB.2 k _ hlk
      obtain ⟨b, o, rfl⟩ := hA.addr hsk
      obtain ⟨e0, e1, e2⟩ := band_cell hA hsk
      replace e0 := hE.cell e0
      replace e1 := hE.cell e1
      replace e2 := hE.cell e2
      dsimp only at e0 e1 e2 hn1 hrx
      have HN1 := Lib.hid hn1
      have HT := Lib.hid (show rectsB (B.take (k + 1)) = rectsB (B.take k) ++ rectsOf (y0, y1, rs) rs from by rw [take_snocG hlk, rectsB_append, rectsB_one])
      have HLE := Lib.hid (fun j => rects_in hlk j)
      have hat := hrx.at
      generalize hpre : rectsB (B.take k) = pre at *
      clear hlk hsk hn1 hpre hrx
      have hEa := hE.trans (Ext.alloc wr (.cells #[.int .i64 y0, .int .i64 y1, .slice A1 n1 c1] 89))
      have b5 := Box.new wr 89 #[.int .i64 y0, .int .i64 y1, .slice A1 n1 c1]
      have hownA := hown.ext (Ext.alloc wr (.cells #[.int .i64 y0, .int .i64 y1, .slice A1 n1 c1] 89))
      have c5 := b5.cell
      go_wp2_with fail
      generalize hW0 : World.alloc wr _ = W0 at *
      generalize wr.heap.size = Bb at *
      clear hW0
      go_loopw [3, 17] (fun s i wr => ∃ j : Nat, j ≤ n1 ∧ i = .int .i64 j ∧ Ext w wr ∧ Box wr Bb 89 #[.int .i64 y0, .int .i64 y1, .slice A1 n1 c1] ∧ rectE.Own wr w.heap.size s (pre ++ rectsOf (y0, y1, rs) (rs.take j))) (fun _ i _ => n1 - (intOf i).toNat)
      case atStart => exact ⟨0, Nat.zero_le _, rfl, hEa, b5, by simpa [rectsOf] using hownA⟩
      case round =>
        clear hownA hown c5 hEa b5 hE e0 e1 e2
        obtain ⟨j, hj, rfl, hE, b5, hown⟩ := hrel
        have c5 := b5.cell
        by_cases hlt2 : j < n1
        · have dj : ((j : Int) < (n1 : Int)) = True := eq_true (by omega)
          obtain ⟨⟨x0, x1⟩, hlj⟩ : ∃ q, rs[j]? = some q := ⟨_, List.getElem?_eq_getElem (by rw [HN1.out]; exact hlt2)⟩
          obtain ⟨b', o', rfl⟩ := hat.addr hlj
          obtain ⟨f0, f1⟩ := run_cell hat hlj
          replace f0 := hE.cell f0
          replace f1 := hE.cell f1
          dsimp only at f0 f1
          have HT2 := Lib.hid (show pre ++ rectsOf (y0, y1, rs) (rs.take (j + 1)) = (pre ++ rectsOf (y0, y1, rs) (rs.take j)) ++ [(x0, y0, x1, y1)] from by rw [take_snocG hlj]; simp [rectsOf])
          have HLL := Lib.hid (show (pre ++ rectsOf (y0, y1, rs) (rs.take j)).length + ([(x0, y0, x1, y1)] : List R4).length ≤ 1000000000 from by have := HLE.out j; have := HL.out; simp only [List.length_singleton]; omega)
          generalize hcur : pre ++ rectsOf (y0, y1, rs) (rs.take j) = cur at *
          clear hlj hcur
          have hE3 := (hE.trans (Ext.alloc wr (.cells #[.int .i64 x0, .int .i64 x1] 92))).trans (Ext.alloc _ (.cells #[.int .i64 x0, .int .i64 y0, .int .i64 x1, .int .i64 y1] 34))
          have hownB := (hown.ext (Ext.alloc wr (.cells #[.int .i64 x0, .int .i64 x1] 92))).ext (Ext.alloc _ (.cells #[.int .i64 x0, .int .i64 y0, .int .i64 x1, .int .i64 y1] 34))
          have b5B := (b5.alloc (.cells #[.int .i64 x0, .int .i64 x1] 92)).alloc (.cells #[.int .i64 x0, .int .i64 y0, .int .i64 x1, .int .i64 y1] 34)
          have hrow := EL.rowOne (E := rectE) (x := (x0, y0, x1, y1)) (Box.at1 (w := wr) (o := .cells #[.int .i64 x0, .int .i64 x1] 92) (t := 34) (cs := #[.int .i64 x0, .int .i64 y0, .int .i64 x1, .int .i64 y1])) rfl
          have hsz := hE3.size
          have k5 := (b5.alloc (.cells #[.int .i64 x0, .int .i64 x1] 92)).cell
          clear c5
          go_wp2_with (at_builtin; refine EL.wpApp rectE rfl _ _ rfl w.heap.size _ _ cur [(x0, y0, x1, y1)] rfl rfl hownB hrow HLL.out hsz ?_; intro v1 W1 own1 gr1 _)
          have hE5 := growExt hE3 hownB (Nat.le_refl _) gr1
          have b5C := boxGrown b5B gr1 (own_ne_typeG hownB b5B (by decide))
          go_roundw
          case rel => exact ⟨j + 1, by omega, by go_num, hE5, b5C, by rw [HT2.out]; exact own1⟩
          case measure => simp [intOf]; omega
        · have dj : ((j : Int) < (n1 : Int)) = False := eq_false (by omega)
          have HF := Lib.hid (show rs.take j = rs from List.take_of_length_le (by rw [HN1.out]; omega))
          rw [HF.out] at hown
          go_wp2
          go_roundw
          case rel => exact ⟨k + 1, by omega, by go_num, hE, by rw [HT.out]; exact hown⟩
          case measure => simp [intOf]; omega
    · have dk : ((k : Int) < (n : Int)) = False := eq_false (by omega)
      have HF := Lib.hid (show B.take k = B from List.take_of_length_le (by rw [HN.out]; omega))
      rw [HF.out] at hown
      go_wp2
      go_ret
      exact ⟨_, rfl, hE, hown⟩
end Go.Proofs.YtkjpcjmbhpfelaaGreat
