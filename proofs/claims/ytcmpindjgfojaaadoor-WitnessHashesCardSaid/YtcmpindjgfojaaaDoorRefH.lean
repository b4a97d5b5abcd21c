/- Walks: the reference's Hash. -/
import Derived.Test.YtcmpindjgfojaaaDoorHashP
import Derived.Test.YtcmpindjgfojaaaDoorWitC
import Derived.Laws.Rows
import Derived.Laws.CopyOwn
import Derived.ChangeAlike
import Derived.RegionTactic
import Derived.Deep.AppendLies
import Derived.Deep.RegionLaw
import Derived.RangeFuncBox
namespace Go.Proofs.YtcmpindjgfojaaaDoor
open Go.RowKit

/-- A block of eight numbers. -/
def Blk (W : World) (b : Nat) (l : List Nat) : Prop := W.heap[b]? = some (.cells (l.map fun n : Nat => Value.int .i64 (n : Int)).toArray 82 (0, 0))
theorem Blk.cell {W : World} {b : Nat} {l : List Nat} (h : Blk W b l) {j : Nat} (hj : j < l.length) : W.cell? ⟨b, j, none⟩ = some (.int .i64 ((l.getD j 0 : Nat) : Int)) := by
  unfold Blk at h
  simp [World.cell?, h, List.getD, hj]
theorem Blk.free {W : World} {b : Nat} {l : List Nat} (h : Blk W b l) (j : Nat) : W.frozen? ⟨b, j, none⟩ = false := by
  unfold Blk at h
  simp [World.frozen?, h]
theorem Blk.set {W : World} {b : Nat} {l : List Nat} (h : Blk W b l) (j x : Nat) {v : Value} (hv : v = .int .i64 (x : Int)) : Blk (W.setCell ⟨b, j, none⟩ v) b (l.set j x) := by
  subst hv
  unfold Blk at h ⊢
  simp only [World.setCell, Array.getElem?_modify, h]
  simp [List.map_set]
theorem Blk.other {W : World} {b b' : Nat} {l : List Nat} (h : Blk W b l) (hne : b' ≠ b) (j : Nat) (v : Value) : Blk (W.setCell ⟨b', j, none⟩ v) b l := by
  unfold Blk at h ⊢
  rw [← h]
  exact Below.heap_setCell _ _ _ _ (Ne.symm hne)
theorem Blk.drew {W : World} {b : Nat} {l : List Nat} (h : Blk W b l) : Blk W.drew b l := by
  exact h
theorem Blk.alloc {W : World} {b : Nat} {l : List Nat} (h : Blk W b l) (o : Obj) : Blk (W.alloc o) b l := by
  unfold Blk at h ⊢
  exact (Below.heap_alloc _ _ _ (Array.getElem?_eq_some_iff.1 h).1).trans h
theorem infoU8 : (Tryd.prog.info? 5).map (fun i => (i.zero, i.size, i.bytes)) = some (some (.int .u8 0), 1, 1) := by kernel_rfl
theorem own_emptyT {w : World} {B g : Nat} {t : TypeId} (h : B ≤ g) (hg : w.heap[g]? = some (.cells #[] t (0, 0))) : w.ownsRow B t 1 (.slice (some ⟨g, 0, none⟩) 0 0) 0 [] :=
  ⟨rfl, .inr ⟨g, 0, #[], rfl, h, hg, Nat.le_refl _, by decide, rfl, rfl⟩⟩
/-- The digits of the m highest limbs. -/
def digN (h : List Nat) (m : Nat) : List UInt8 := (h.reverse.take m).flatMap fun x => [hexc (x / 16), hexc (x % 16)]
theorem digN_snoc {h : List Nat} {m j : Nat} (hl : h.length = 8) (hj : j + m = 7) : digN h (m + 1) = digN h m ++ [hexc (h.getD j 0 / 16), hexc (h.getD j 0 % 16)] := by
  have : h.reverse[m]? = some (h.getD j 0) := by
    rw [List.getElem?_reverse (by omega), hl, show 8 - 1 - m = j by omega, List.getD_eq_getElem?_getD, List.getElem?_eq_getElem (by omega)]
    rfl
  unfold digN
  rw [take_snoc this, List.flatMap_append]
  simp
theorem digN_all {h : List Nat} (hl : h.length = 8) : digN h 8 = digL h := by
  unfold digN digL
  rw [List.take_of_length_le (by simp [hl])]
theorem digN_len (h : List Nat) (hl : h.length = 8) : ∀ m, m ≤ 8 → (digN h m).length = 2 * m
  | 0, _ => rfl
  | m + 1, hm => by
    rw [digN_snoc hl (show (7 - m) + m = 7 by omega), List.length_append, digN_len h hl m (by omega)]
    simp; omega
def hexS16 : ByteArray := ⟨#[48, 49, 50, 51, 52, 53, 54, 55, 56, 57, 97, 98, 99, 100, 101, 102]⟩
theorem hexS16_at (n : Nat) (h : n < 16) (h' : n < hexS16.size) : hexS16[n] = hexc n := by
  revert h'; revert h; revert n; decide
theorem idx16 (n : Nat) (h : n < 16) (wx : World) : (Instr.index 9 (.string ⟨#[48, 49, 50, 51, 52, 53, 54, 55, 56, 57, 97, 98, 99, 100, 101, 102]⟩) (.int .i64 (n : Int))).run Tryd.prog wx = .ok (.int .u8 ((hexc n).toNat : Int)) wx := by
  have h1 : n < hexS16.size := h
  have hs : hexS16.size = 16 := rfl
  show (Instr.index 9 (.string hexS16) (.int .i64 (n : Int))).run Tryd.prog wx = _
  rw [run_index_string _ _ _ _ _ Tryd.underlying9, dif_pos (by rw [hs]; omega)]
  exact congrArg (fun c : UInt8 => Result.ok (Value.int .u8 (c.toNat : Int)) wx) (hexS16_at n h h1)
theorem idxS (n : Nat) (h : n < 16) (h' : (n : Int).toNat < hexS16.size) : ((hexS16[(n : Int).toNat]'h').toNat : Int) = ((hexc n).toNat : Int) := by
  have e : (n : Int).toNat = n := by omega
  have := hexS16_at n h (by rw [← e]; exact h')
  rw [← this]
  congr 2
theorem news_two (wx : World) (t : TypeId) (x1 x2 : Nat) (k1 : x1 < 16) (k2 : x2 < 16) {v1 v2 : Value} (e1 : v1 = .int .u8 ((hexc x1).toNat : Int) := by exact congrArg (Value.int .u8) (idxS _ (by assumption) _)) (e2 : v2 = .int .u8 ((hexc x2).toNat : Int) := by exact congrArg (Value.int .u8) (idxS _ (by assumption) _)) :
    ∀ j u, ([.int .u8 ((hexc x1).toNat : Int), .int .u8 ((hexc x2).toNat : Int)] : List Value)[j]? = some u → (wx.alloc (Obj.cells #[v1, v2] t)).cell? ((⟨wx.heap.size, 0, none⟩ : Addr).add j) = some u := by
  subst e1; subst e2
  intro j u hj
  rw [Addr.add_lit, World.cell?_alloc_new]
  simpa using hj
set_option pp.maxSteps 100000
theorem rel_dig {w wr w2 : World} {n0 g cap k : Nat} {H : List Nat} {O : Obj} {xs : List Value} (HBX : Below w.heap.size w wr) (hn9 : w.heap.size < n0) (hzx : n0 ≤ wr.heap.size) (HO : wr.ownsRow n0 5 1 (.slice (some ⟨g, 0, none⟩) k cap) k xs)
    (HBx : Blk wr w.heap.size H) (hgrow : (wr.alloc O).drew.grownBy w2 (Value.slice (some ⟨g, 0, none⟩) k cap).ownBlock) : Below w.heap.size w w2 ∧ Blk w2 w.heap.size H ∧ n0 ≤ w2.heap.size := by
  have hgl := HO.lt g rfl
  have hz8 : (wr.alloc O).drew.heap.size = wr.heap.size + 1 := by simp
  have hb8 : Below w.heap.size w (wr.alloc O).drew := (HBX.alloc HBX.size _).drew
  have hB8 : Blk (wr.alloc O).drew w.heap.size H := (HBx.alloc O).drew
  refine ⟨hb8.grown hgrow hb8.size (fun q e => by simp [Value.ownBlock] at e; omega), ?_, ?_⟩
  · exact (hgrow.block _ (by omega) (by simp [Value.ownBlock]; omega)).trans hB8
  · have := hgrow.size; omega
set_option maxRecDepth 100000 in
set_option maxHeartbeats 2000000 in
theorem rhash_any (s : ByteArray) (w : World) (hs : s.size ≤ 140737488351232) :
    Calls Tryd.prog 12 #[.string s] w fun e w' => e = .returned (.string ⟨(hashL s.data.toList).toArray⟩) ∧ Below w.heap.size w w' := by
  go_enter Tryd.func12, Tryd.ntmps12
  go_wp2
  obtain ⟨W0, hW0⟩ : ∃ W0, W0 = (w.alloc (Obj.cells #[.int .i64 37, .int .i64 35, .int .i64 34, .int .i64 132, .int .i64 228, .int .i64 156, .int .i64 242, .int .i64 203] 82)).alloc (Obj.cells #[.int .i64 179, .int .i64 1, .int .i64 0, .int .i64 0, .int .i64 0, .int .i64 1, .int .i64 0, .int .i64 0] 82) := ⟨_, rfl⟩
  rw [← hW0]
  have hb0 : Below w.heap.size w W0 := by rw [hW0]; exact ((Below.refl _ _).alloc (Nat.le_refl _) _).alloc (by simp) _
  have hB0 : Blk W0 w.heap.size beginL := by
    unfold Blk; rw [hW0]
    exact (Below.heap_alloc (w.alloc _) _ w.heap.size (by simp)).trans (World.alloc_heap_new w _)
  have hP0 : Blk W0 (w.heap.size + 1) primeL := by
    unfold Blk; rw [hW0]
    have := World.alloc_heap_new (w.alloc (Obj.cells #[.int .i64 37, .int .i64 35, .int .i64 34, .int .i64 132, .int .i64 228, .int .i64 156, .int .i64 242, .int .i64 203] 82)) (Obj.cells #[.int .i64 179, .int .i64 1, .int .i64 0, .int .i64 0, .int .i64 0, .int .i64 1, .int .i64 0, .int .i64 0] 82)
    rw [show (w.alloc (Obj.cells #[.int .i64 37, .int .i64 35, .int .i64 34, .int .i64 132, .int .i64 228, .int .i64 156, .int .i64 242, .int .i64 203] 82)).heap.size = w.heap.size + 1 by simp] at this
    exact this
  clear hW0
  go_loopw [5] (fun i wr => ∃ k : Nat, k ≤ s.size ∧ i = .int .i64 k ∧ Blk wr w.heap.size (hashLimbs (s.data.toList.take k)) ∧ Blk wr (w.heap.size + 1) primeL ∧ Below w.heap.size w wr) (fun i _ => s.size - (intOf i).toNat)
  case atStart => exact ⟨0, Nat.zero_le _, rfl, hB0, hP0, hb0⟩
  case round =>
    clear hB0 hP0 hb0
    obtain ⟨k, hk, rfl, hB, hP, hbr⟩ := hrel
    by_cases hlt : k < s.size
    · have hlb := limbs_lb (s.data.toList.take k)
      have hlk : s.data.toList[k]? = some s[k] := by
        rw [List.getElem?_eq_getElem (by simpa using hlt)]; rfl
      have HS := Lib.hid (limbs_snoc hlk)
      have hc := s[k].toNat_lt
      generalize hashLimbs (s.data.toList.take k) = H at hB hlb HS
      generalize hck : s[k].toNat = c at HS hc
      have HH := Lib.hid hlb.1
      have e0 := hB.cell (j := 0) (by rw [HH.out]; decide)
      have f0 := hB.free 0
      have hx0 := hlb.2 0
      have exor := i64_xor_nat (H.getD 0 0) c (by omega) (by omega)
      have HB := Lib.hid hB; have HP := Lib.hid hP; have HLB := Lib.hid hlb
      clear hB hP hlb hlk
      generalize hx0' : H.getD 0 0 = x0 at e0 exor hx0
      have X0 := Lib.hid hx0'
      clear hx0'
      go_wp2
      go_region
      simp only [Exit.then]
      go_at_K
      have HB1 : Blk (wr.setCell ⟨w.heap.size, 0, none⟩ (.int .i64 ((x0 ^^^ c : Nat) : Int))).drew w.heap.size (H.set 0 (x0 ^^^ c)) := ((HB.out).set 0 _ rfl).drew
      have HP1 : Blk (wr.setCell ⟨w.heap.size, 0, none⟩ (.int .i64 ((x0 ^^^ c : Nat) : Int))).drew (w.heap.size + 1) primeL := ((HP.out).other (by omega) _ _).drew
      have hbr1 : Below w.heap.size w (wr.setCell ⟨w.heap.size, 0, none⟩ (.int .i64 ((x0 ^^^ c : Nat) : Int))).drew := (hbr.setCell (by simp) _).drew
      generalize (wr.setCell ⟨w.heap.size, 0, none⟩ (.int .i64 ((x0 ^^^ c : Nat) : Int))).drew = W1 at HB1 HP1 hbr1 ⊢
      clear e0 f0 exor HB HP hbr
      have h2 := Lib.hid HB1; have h3 := Lib.hid HP1
      clear HB1 HP1
      have hxl : xorL H c = H.set 0 (x0 ^^^ c) := by unfold xorL; rw [X0.out]
      rw [← hxl] at h2
      have hlx : LB 255 (xorL H c) := by
        rw [hxl]; refine HLB.out.set ?_
        have : x0 ^^^ c < 2 ^ 8 := Nat.xor_lt_two_pow (by omega) hc
        omega
      have hnext : hashLimbs (List.take (k + 1) s.data.toList) = (carryN (mulOut (xorL H c) 8) 8).2 := by rw [HS.out]; rfl
      generalize xorL H c = G at h2 hlx hnext
      have HG := Lib.hid hlx; have HN := Lib.hid hnext
      clear hlx hnext hxl X0 HS HLB HH
      go_wp2
      obtain ⟨W2, hW2⟩ : ∃ W2, W2 = W1.alloc (Obj.cells #[.int .i64 0, .int .i64 0, .int .i64 0, .int .i64 0, .int .i64 0, .int .i64 0, .int .i64 0, .int .i64 0] 82) := ⟨_, rfl⟩
      rw [← hW2]
      have g1 : Blk W2 w.heap.size G := by rw [hW2]; exact h2.out.alloc _
      have g2 : Blk W2 (w.heap.size + 1) primeL := by rw [hW2]; exact h3.out.alloc _
      have g3 : Blk W2 W1.heap.size (mulOut G 0) := by rw [hW2]; exact World.alloc_heap_new W1 _
      have hb2 : Below w.heap.size w W2 := by rw [hW2]; exact hbr1.alloc hbr1.size _
      have hnb0 : w.heap.size + 1 < W1.heap.size := (Array.getElem?_eq_some_iff.1 h3.out).1
      clear hW2
      generalize W1.heap.size = nb at g3 hnb0 ⊢
      have hn1 : nb ≠ w.heap.size := by omega
      have hn2 : nb ≠ w.heap.size + 1 := by omega
      have hnbw : w.heap.size ≤ nb := by omega
      clear h2 h3 hbr1 hnb0
      go_loopw [7] (fun i wr => ∃ a : Nat, a ≤ 8 ∧ i = .int .i64 a ∧ Blk wr w.heap.size G ∧ Blk wr (w.heap.size + 1) primeL ∧ Blk wr nb (mulOut G a) ∧ Below w.heap.size w wr) (fun i _ => 8 - (intOf i).toNat)
      case atStart => exact ⟨0, by omega, rfl, g1, g2, g3, hb2⟩
      case round =>
        clear g1 g2 g3 hb2
        obtain ⟨a, ha, rfl, q1, q2, q3, hb3⟩ := hrel
        by_cases ha8 : a < 8
        · have Q1 := Lib.hid q1; have Q2 := Lib.hid q2; have Q3 := Lib.hid q3; have Q4 := Lib.hid hb3
          clear q1 q2 q3 hb3
          go_wp2
          go_loopw [8] (fun i wr => ∃ b : Nat, a + b ≤ 8 ∧ i = .int .i64 b ∧ Blk wr w.heap.size G ∧ Blk wr (w.heap.size + 1) primeL ∧ Blk wr nb (mulIn G a (mulOut G a) b) ∧ Below w.heap.size w wr) (fun i _ => 8 - (intOf i).toNat)
          case atStart => exact ⟨0, by omega, rfl, Q1.out, Q2.out, Q3.out, Q4.out⟩
          case round =>
            clear Q1 Q2 Q3 Q4
            obtain ⟨b, hb, rfl, q1, q2, q3, hb3⟩ := hrel
            by_cases hb8 : a + b < 8
            · obtain ⟨j, hj⟩ : ∃ j, a + b = j := ⟨_, rfl⟩
              have hlM := mulIn_bd (a := a) HG.out (mulOut_bd HG.out a ha) b
              have hji : (a : Int) + (b : Int) = (j : Int) := by omega
              have x1 := hlM.2 j
              have x2 := HG.out.2 a
              have x3 := primeL_bd b
              have c1 := q3.cell (j := j) (by rw [hlM.1]; omega)
              have c2 := q1.cell (j := a) (by rw [HG.out.1]; omega)
              have c3 := q2.cell (j := b) (by show b < 8; omega)
              have f1 := q3.free j
              have Q1 := Lib.hid q1; have Q2 := Lib.hid q2; have Q3 := Lib.hid q3; have Q4 := Lib.hid hb3
              have hstep : mulIn G a (mulOut G a) (b + 1) = (mulIn G a (mulOut G a) b).set j ((mulIn G a (mulOut G a) b).getD j 0 + G.getD a 0 * primeL.getD b 0) := by
                show mulAt G a b _ = _
                unfold mulAt; rw [hj]
              have HST := Lib.hid hstep
              clear q1 q2 q3 hb3 hlM hstep
              generalize mulIn G a (mulOut G a) b = M at x1 c1 Q3 HST
              generalize M.getD j 0 = y1 at x1 c1 HST
              generalize G.getD a 0 = y2 at x2 c2 HST
              generalize primeL.getD b 0 = y3 at x3 c3 HST
              have hyy : y2 * y3 ≤ 255 * 179 := Nat.mul_le_mul x2 x3
              have hpr : (y2 : Int) * (y3 : Int) = ((y2 * y3 : Nat) : Int) := by simp
              generalize hpp : y2 * y3 = pp at hyy hpr HST
              have hx1 : y1 ≤ 10000000 := by omega
              have hw1 : IntKind.i64.wrap ((y2 : Int) * (y3 : Int)) = (pp : Int) := by rw [hpr, IntKind.wrap_i64]; omega
              have hw2 : IntKind.i64.wrap ((y1 : Int) + (pp : Int)) = ((y1 + pp : Nat) : Int) := by rw [IntKind.wrap_i64]; omega
              have hw3 : IntKind.i64.wrap ((a : Int) + (b : Int)) = (j : Int) := by rw [IntKind.wrap_i64]; omega
              have hjn : ((j : Int)).toNat = j := by omega
              have hj8 : (j : Int) < 8 := by omega
              have HJ := Lib.hid hj; have HPP := Lib.hid hpp
              clear hj hpp x1 x2 x3 hyy hpr
              go_wp2
              go_region
              simp only [Exit.inBlock, Exit.then]
              go_at_K
              have hcast : (y1 : Int) + (pp : Int) = ((y1 + pp : Nat) : Int) := by simp
              have r1 : Blk (wr.setCell ⟨nb, j, none⟩ (.int .i64 ((y1 : Int) + (pp : Int)))).drew w.heap.size G := ((Q1.out).other hn1 _ _).drew
              have r2 : Blk (wr.setCell ⟨nb, j, none⟩ (.int .i64 ((y1 : Int) + (pp : Int)))).drew (w.heap.size + 1) primeL := ((Q2.out).other hn2 _ _).drew
              have r3 : Blk (wr.setCell ⟨nb, j, none⟩ (.int .i64 ((y1 : Int) + (pp : Int)))).drew nb (M.set j (y1 + pp)) := ((Q3.out).set j _ (by rw [hcast])).drew
              have r4 : Below w.heap.size w (wr.setCell ⟨nb, j, none⟩ (.int .i64 ((y1 : Int) + (pp : Int)))).drew := ((Q4.out).setCell (by simp; omega) _).drew
              rw [← HST.out] at r3
              have R1 := Lib.hid r1; have R2 := Lib.hid r2; have R3 := Lib.hid r3; have R4 := Lib.hid r4
              clear r1 r2 r3 r4 hcast c1 c2 c3 f1 hw1 hw2 hw3 hjn
              go_wp2
              go_roundw
              case rel => exact ⟨b + 1, by omega, by go_num, R1.out, R2.out, R3.out, R4.out⟩
              case measure => simp [intOf]; omega
            · have hb9 : b = 8 - a := by omega
              have Q1 := Lib.hid q1; have Q2 := Lib.hid q2; have Q4 := Lib.hid hb3
              have hMM : mulIn G a (mulOut G a) b = mulOut G (a + 1) := by rw [hb9]; rfl
              rw [hMM] at q3
              have Q3 := Lib.hid q3
              clear q1 q2 q3 hb3 hMM hb9
              go_wp2
              go_roundw
              case rel => exact ⟨a + 1, by omega, by go_num, Q1.out, Q2.out, Q3.out, Q4.out⟩
              case measure => simp [intOf]; omega
        · obtain rfl : a = 8 := by omega
          have hlM := mulOut_bd HG.out 8 (Nat.le_refl _)
          generalize mulOut G 8 = M at q3 hlM HN
          have HM := Lib.hid (hlM.mono (show _ ≤ 2921280 by decide))
          have Q1 := Lib.hid q1; have Q2 := Lib.hid q2; have Q3 := Lib.hid q3; have Q4 := Lib.hid hb3
          clear q1 q2 q3 hb3 hlM
          go_wp2
          go_loopw [9, 10] (fun cc i wr => ∃ a : Nat, a ≤ 8 ∧ i = .int .i64 a ∧ cc = .int .i64 ((carryN M a).1 : Int) ∧ Blk wr w.heap.size G ∧ Blk wr (w.heap.size + 1) primeL ∧ Blk wr nb (carryN M a).2 ∧ Below w.heap.size w wr) (fun _ i _ => 8 - (intOf i).toNat)
          case atStart => exact ⟨0, by omega, rfl, rfl, Q1.out, Q2.out, Q3.out, Q4.out⟩
          case round =>
            clear Q1 Q2 Q3 Q4
            obtain ⟨a, ha, rfl, rfl, q1, q2, q3, hb3⟩ := hrel
            have hcb := carry_bd HM.out a
            by_cases ha8 : a < 8
            · have x1 := hcb.1
              have x2 := hcb.2.2 a
              have c1 := q3.cell (j := a) (by rw [hcb.2.1]; omega)
              have f1 := q3.free a
              have Q1 := Lib.hid q1; have Q2 := Lib.hid q2; have Q3 := Lib.hid q3; have Q4 := Lib.hid hb3
              have hs1 : (carryN M (a + 1)).1 = ((carryN M a).1 + (carryN M a).2.getD a 0) / 256 := rfl
              have hs2 : (carryN M (a + 1)).2 = (carryN M a).2.set a (((carryN M a).1 + (carryN M a).2.getD a 0) % 256) := rfl
              have HS1 := Lib.hid hs1; have HS2 := Lib.hid hs2
              clear q1 q2 q3 hb3 hcb hs1 hs2
              generalize (carryN M a).1 = y1 at x1 HS1 HS2 ⊢
              generalize (carryN M a).2 = L at x2 c1 Q3 HS1 HS2
              generalize L.getD a 0 = y2 at x2 c1 HS1 HS2
              go_wp2
              go_roundw
              case rel =>
                refine ⟨a + 1, by omega, by go_num, ?_, (Q1.out).other hn1 _ _, (Q2.out).other hn2 _ _, ?_, (Q4.out).setCell (by simp; omega) _⟩
                · rw [HS1.out]; exact congrArg (Value.int .i64) (by omega)
                · rw [HS2.out]; exact (Q3.out).set a _ (congrArg (Value.int .i64) (by omega))
              case measure => simp [intOf]; omega
            · obtain rfl : a = 8 := by omega
              rw [← HN.out] at q3
              generalize hL : hashLimbs (List.take (k + 1) s.data.toList) = L at q3
              have hl8 : L.length = 8 := by rw [← hL]; exact (limbs_ok _).1
              have HL := Lib.hid hL; have H8 := Lib.hid hl8
              have hi8 : (Tryd.prog.info? 82).map (·.size) = some 8 := by kernel_rfl
              have HI := Lib.hid hi8
              have Q1 := Lib.hid q1; have Q2 := Lib.hid q2; have Q3 := Lib.hid q3; have Q4 := Lib.hid hb3
              clear q1 q2 q3 hb3 hcb hL hl8 hi8 HN
              have hal : (L.map fun n : Nat => Value.int .i64 (n : Int)).toArray.all (·.oneCell') = true := by
                simp [Value.oneCell']
              have HAL := Lib.hid hal
              clear hal
              go_wp2_with (first
                | (refine wpList_load_row rfl 82 (.tmp 6) rfl nb rfl 82 (L.map fun n : Nat => Value.int .i64 (n : Int)).toArray (0, 0) _ Q3.out Tryd.underlying82 rfl (by rw [HI.out]; simp [H8.out]) ?_)
                | (refine wpList_store_row rfl 82 (.tmp 3) (.tmp 69) rfl w.heap.size (L.map fun n : Nat => Value.int .i64 (n : Int)).toArray rfl rfl 82 _ Q1.out (by rw [HI.out]; simp [H8.out]) (by simp [HG.out.1, H8.out]) HAL.out ?_))
              go_roundw
              case rel =>
                refine ⟨k + 1, by omega, by go_num, ?_, ?_, below_setRow Q4.out (Nat.le_refl _) _⟩
                · rw [HL.out]; exact setRow_heap _ _ _ _ _ _ Q1.out
                · exact (setRow_other _ _ _ _ (by omega)).trans Q2.out
              case measure => simp [intOf]; omega
    · obtain rfl : k = s.size := by omega
      have htk : s.data.toList.take s.size = s.data.toList := List.take_of_length_le (by simp)
      rw [htk] at hB
      have hlb := limbs_lb s.data.toList
      have hfin := hash_limbs s.data.toList
      generalize hashLimbs s.data.toList = H at hB hlb hfin
      have HF := Lib.hid hfin; have HB := Lib.hid hB; have HP := Lib.hid hP; have HBR := Lib.hid hbr; have HLB := Lib.hid hlb
      clear htk hfin hB hP hlb hbr
      have hl8 := HLB.out.1
      have HL8 := Lib.hid hl8
      clear hl8
      obtain ⟨i0, hi, hz0, hz1, hz2⟩ := info_parts infoU8
      go_wp2
      obtain ⟨W9, hW9⟩ : ∃ W9, W9 = wr.alloc (Obj.cells #[] 5) := ⟨_, rfl⟩
      rw [← hW9]
      have o9 : W9.ownsRow wr.heap.size 5 1 (.slice (some ⟨wr.heap.size, 0, none⟩) 0 0) 0 [] := by rw [hW9]; exact own_emptyT (Nat.le_refl _) (World.alloc_heap_new wr _)
      have b9 : Blk W9 w.heap.size H := by rw [hW9]; exact (HB.out).alloc _
      have w9 : Below w.heap.size w W9 := by rw [hW9]; exact (HBR.out).alloc (HBR.out).size _
      have z9 : wr.heap.size ≤ W9.heap.size := by rw [hW9]; simp
      have hn9 : w.heap.size < wr.heap.size := (Array.getElem?_eq_some_iff.1 HB.out).1
      clear hW9 HP HB HBR
      generalize wr.heap.size = n0 at o9 z9 hn9 ⊢
      go_loopw [11, 12] (fun o i wx => ∃ (m g cap : Nat), m ≤ 8 ∧ i = .int .i64 (7 - (m : Int)) ∧ o = .slice (some ⟨g, 0, none⟩) (2 * m) cap ∧ wx.ownsRow n0 5 1 o (2 * m) ((digN H m).map fun c : UInt8 => Value.int .u8 (c.toNat : Int)) ∧ Blk wx w.heap.size H ∧ Below w.heap.size w wx ∧ n0 ≤ wx.heap.size) (fun _ i _ => (intOf i + 1).toNat)
      case atStart => exact ⟨0, n0, 0, by omega, rfl, rfl, o9, b9, w9, z9⟩
      case round =>
        clear o9 b9 w9 z9
        obtain ⟨m, g, cap, hm, rfl, rfl, hown, hBx, hbx, hzx⟩ := hrel
        by_cases hm8 : m < 8
        · obtain ⟨j, hj⟩ : ∃ j : Nat, j + m = 7 := ⟨7 - m, by omega⟩
          have hji : (7 : Int) - (m : Int) = (j : Int) := by omega
          rw [hji]
          have HSN := Lib.hid (digN_snoc HL8.out hj)
          have HJI := Lib.hid hji; have HJ := Lib.hid hj
          have hx := HLB.out.2 j
          have c1 := hBx.cell (j := j) (by rw [HL8.out]; omega)
          have HBx := Lib.hid hBx; have HO := Lib.hid hown; have HBX := Lib.hid hbx
          clear hji hj hBx hown hbx
          generalize H.getD j 0 = x at hx c1 HSN
          have hj8 : (j : Int) < 8 := by have := HJ.out; omega
          have hd1 : (x : Int) / 16 = ((x / 16 : Nat) : Int) := by omega
          have hd2 : (x : Int) % 16 = ((x % 16 : Nat) : Int) := by omega
          have k1 : x / 16 < 16 := by omega
          have k2 : x % 16 < 16 := by omega
          have t1 : (x : Int).tdiv 16 = ((x / 16 : Nat) : Int) := by rw [Int.tdiv_eq_ediv_of_nonneg (by omega)]; exact hd1
          have t2 : (x : Int).tmod 16 = ((x % 16 : Nat) : Int) := by rw [Int.tmod_eq_emod_of_nonneg (by omega)]; exact hd2
          generalize x / 16 = x1 at hd1 t1 k1 HSN
          generalize x % 16 = x2 at hd2 t2 k2 HSN
          have wr1 : IntKind.i64.wrap (x1 : Int) = (x1 : Int) := by rw [IntKind.wrap_i64]; omega
          have wr2 : IntKind.i64.wrap (x2 : Int) = (x2 : Int) := by rw [IntKind.wrap_i64]; omega
          have p1 : (0 : Int) ≤ (x1 : Int) := by omega
          have p2 : (0 : Int) ≤ (x2 : Int) := by omega
          have p3 : (x1 : Int) < 16 := by omega
          have p4 : (x2 : Int) < 16 := by omega
          go_wp2
          go_region_law
            (refine step_append_lies _ rfl (.tmp 75) (.tmp 86) 40 rfl n0 5 i0 (.int .u8 0) 1 1 Tryd.underlying40 hi hz0 hz1 hz2 rfl Nat.one_pos (.slice (some ⟨g, 0, none⟩) (2 * m) cap) (2 * m) ((digN H m).map fun c : UInt8 => Value.int .u8 (c.toNat : Int)) (by simp [Act.eval, Act.put]) ?own ⟨wr.heap.size, 0, none⟩ 2 2 [.int .u8 ((hexc x1).toNat : Int), .int .u8 ((hexc x2).toNat : Int)] (by simp [Act.eval, Act.put]) rfl ?hnews ?h1 (by decide) ?h63 ?hb ?base (wr.heap.size + 1) (by simp) ?_; (case own => exact (HO.out).alloc _); (case hnews => exact news_two _ _ _ _ k1 k2); (case h1 => simp [Value.oneCell']); (case h63 => unfold maxLen; omega); (case hb => omega); (case base => simp; omega)
             intro g2 cap2 w2 hown2 hgrow hgb hglt)
          all_goals
            simp only [Exit.inBlock, Exit.then]
            go_at_K
            obtain ⟨r1, r2, r4⟩ := rel_dig HBX.out hn9 hzx HO.out HBx.out hgrow
            have r3 : w2.ownsRow n0 5 1 (.slice (some ⟨g2, 0, none⟩) (2 * m + 2) cap2) (2 * m + 2) ((digN H (m + 1)).map fun c : UInt8 => Value.int .u8 (c.toNat : Int)) := by
              rw [HSN.out]
              simpa using hown2
            have R1 := Lib.hid r1; have R2 := Lib.hid r2; have R3 := Lib.hid r3; have R4 := Lib.hid r4
            clear r1 r2 r3 r4 hown2 hgrow hgb hglt c1 hd1 hd2 t1 t2 wr1 wr2
            go_wp2
            go_roundw
            case rel => exact ⟨m + 1, g2, cap2, by omega, by have := HJI.out; go_num, rfl, R3.out, R2.out, R1.out, R4.out⟩
            case measure => simp only [intOf]; omega
        · obtain rfl : m = 8 := by omega
          have hconv : (convert 40 9 (.slice (some ⟨g, 0, none⟩) (2 * 8) cap)).run Tryd.prog wr = .ok (.string ⟨(digN H 8).toArray⟩) wr := by
            rw [← digN_len H HL8.out 8 (by omega)]
            refine run_convert_bytes_back _ 40 9 5 ⟨g, 0, none⟩ cap (digN H 8) Tryd.underlying40 Tryd.underlying5 Tryd.underlying9 (fun j hj => ?_)
            have := hown.cellAt j (by rw [digN_len H HL8.out 8 (by omega)] at hj; omega)
            rw [Addr.add_lit]
            simpa [List.getElem?_eq_getElem hj] using this
          rw [digN_all HL8.out, HF.out] at hconv
          have HBX := Lib.hid hbx
          clear hown hBx hbx
          go_wp2
          go_ret
          exact ⟨rfl, HBX.out⟩
end Go.Proofs.YtcmpindjgfojaaaDoor
