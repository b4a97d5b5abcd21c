/- Walks: known. -/
import Derived.Test.YtcmpindjgfojaaaDoorWitK
namespace Go.Proofs.YtcmpindjgfojaaaDoor
open Go.RowKit

/-- What stays while a drawing of one's own is handled beside two boxes. -/
structure KS (w : World) (d pb lb cap b1 b2 : Nat) (D : Drw) (c1 c2 : Array Value) (wk : World) : Prop where
  isd : IsD 8 wk d pb lb cap D
  ok : Ok wk
  bel : Below w.heap.size w wk
  hd : w.heap.size ≤ d
  hp : w.heap.size ≤ pb
  hl : w.heap.size ≤ lb
  x1 : wk.heap[b1]? = some (.cells c1 23 (0, 0))
  x2 : wk.heap[b2]? = some (.cells c2 23 (0, 0))
  n1 : b1 ∉ [d, pb, lb]
  n2 : b2 ∉ [d, pb, lb]
variable {w : World} {d pb lb cap b1 b2 : Nat} {D : Drw} {c1 c2 : Array Value} {wk : World}
theorem KS.step {D' : Drw} {w' : World} {lb' cap' : Nat} (h : KS w d pb lb cap b1 b2 D c1 c2 wk) (hi : IsD 8 w' d pb lb' cap' D') (hM : ModL [d, pb, lb] wk w') (hl : lb' = lb ∨ wk.heap.size ≤ lb') : KS w d pb lb' cap' b1 b2 D' c1 c2 w' := by
  have z1 := lt_of_heap h.x1
  have z2 := lt_of_heap h.x2
  have hn1 := h.n1; have hn2 := h.n2
  have hsz := h.bel.size
  have hll := h.hl
  simp only [List.mem_cons, List.not_mem_nil, or_false, not_or] at hn1 hn2
  refine ⟨hi, hM.ok h.ok ?_, h.bel.trans (hM.below hsz ?_), h.hd, h.hp, ?_, (hM.block _ z1 h.n1).trans h.x1, (hM.block _ z2 h.n2).trans h.x2, ?_, ?_⟩
  · have := h.isd.bd; have := h.isd.bp; have := h.isd.bl
    simp; omega
  · have := h.hd; have := h.hp
    simp; omega
  · rcases hl with rfl | hl <;> omega
  · simp only [List.mem_cons, List.not_mem_nil, or_false, not_or]
    rcases hl with rfl | hl
    · exact hn1
    · exact ⟨hn1.1, hn1.2.1, by omega⟩
  · simp only [List.mem_cons, List.not_mem_nil, or_false, not_or]
    rcases hl with rfl | hl
    · exact hn2
    · exact ⟨hn2.1, hn2.2.1, by omega⟩
theorem KS.stepB {w' : World} (h : KS w d pb lb cap b1 b2 D c1 c2 wk) (hb : Below wk.heap.size wk w') : KS w d pb lb cap b1 b2 D c1 c2 w' :=
  ⟨h.isd.below hb, h.ok.below hb, h.bel.trans (hb.mono h.bel.size), h.hd, h.hp, h.hl, (hb.block _ (lt_of_heap h.x1)).trans h.x1, (hb.block _ (lt_of_heap h.x2)).trans h.x2, h.n1, h.n2⟩

def oakL : List UInt8 := [111, 97, 107]
def elmL : List UInt8 := [101, 108, 109]
theorem hash_foobar : hashL [102, 111, 111, 98, 97, 114] = [56, 53, 57, 52, 52, 49, 55, 49, 102, 55, 51, 57, 54, 55, 101, 56] := by kernel_rfl
theorem split_known : splitR 3 10 [4, 8] = ([4, 8, 1], 0) := by kernel_rfl
theorem seal_oak : (sealR 1 7 oakL).2 = 0 := by kernel_rfl
theorem seal_elm : (sealR 2 9 elmL).2 = 0 := by kernel_rfl
def kD0 : Drw := newD 12 2
def kD1 : Int × Drw := sealD kD0 1 (sealR 1 7 oakL).1
def kD2 : Int × Drw := sealD kD1.2 2 (sealR 2 9 elmL).1
def kD3 : (Bool × Int) × Drw := openD kD2.2 1 7 oakL
def kD4 : (Bool × Int) × Drw := openD kD3.2 2 9 elmL
theorem kD1_0 : kD1.1 = 0 := by kernel_rfl
theorem kD2_0 : kD2.1 = 0 := by kernel_rfl
theorem kD3_0 : kD3.1 = (true, 0) := by kernel_rfl
theorem kD4_0 : kD4.1 = (true, 0) := by kernel_rfl
theorem kV : valR kD4.2 = (4, 0) := by kernel_rfl
theorem kL0 : kD0.pers.length = 2 ∧ kD0.lines.length = 1 ∧ kD0.nseal = 0 := ⟨by kernel_rfl, by kernel_rfl, by kernel_rfl⟩
theorem kL1 : kD1.2.pers.length = 2 ∧ kD1.2.lines.length = 2 ∧ kD1.2.nseal = 1 := ⟨by kernel_rfl, by kernel_rfl, by kernel_rfl⟩
theorem kL2 : kD2.2.pers.length = 2 ∧ kD2.2.lines.length = 3 ∧ kD2.2.nseal = 2 ∧ kD2.2.below = 12 := ⟨by kernel_rfl, by kernel_rfl, by kernel_rfl, by kernel_rfl⟩
theorem kL3 : kD3.2.pers.length = 2 ∧ kD3.2.lines.length = 4 ∧ kD3.2.nseal = 2 ∧ kD3.2.below = 12 := ⟨by kernel_rfl, by kernel_rfl, by kernel_rfl, by kernel_rfl⟩
theorem kL4 : kD4.2.pers.length = 2 ∧ kD4.2.below = 12 := ⟨by kernel_rfl, by kernel_rfl⟩

def kh1 : ByteArray := ⟨(sealR 1 7 oakL).1.toArray⟩
def kh2 : ByteArray := ⟨(sealR 2 9 elmL).1.toArray⟩
theorem kseal_oak (w : World) (hw : Ok w) : Calls Tryd.prog 11 #[.agg #[.int .i64 1, .int .i64 7, .string ⟨#[111, 97, 107]⟩]] w fun e w' => e = .returned (.tuple #[.string kh1, .int .i64 0]) ∧ Below w.heap.size w w' := by
  have := seal2_any 1 7 ⟨oakL.toArray⟩ (by decide) w hw
  simp only [List.toList_toArray, seal_oak] at this
  exact this
theorem kseal_elm (w : World) (hw : Ok w) : Calls Tryd.prog 11 #[.agg #[.int .i64 2, .int .i64 9, .string ⟨#[101, 108, 109]⟩]] w fun e w' => e = .returned (.tuple #[.string kh2, .int .i64 0]) ∧ Below w.heap.size w w' := by
  have := seal2_any 2 9 ⟨elmL.toArray⟩ (by decide) w hw
  simp only [List.toList_toArray, seal_elm] at this
  exact this
def kc1 : Array Value := #[.int .i64 1, .int .i64 7, .string ⟨oakL.toArray⟩]
def kc2 : Array Value := #[.int .i64 2, .int .i64 9, .string ⟨elmL.toArray⟩]
theorem KS.y20 (h : KS w d pb lb cap b1 b2 D c1 kc2 wk) : wk.cell? ⟨b2, 0, none⟩ = some (.int .i64 2) := cell_of_heap h.x2
theorem KS.y21 (h : KS w d pb lb cap b1 b2 D c1 kc2 wk) : wk.cell? ⟨b2, 1, none⟩ = some (.int .i64 9) := cell_of_heap h.x2
theorem KS.y22 (h : KS w d pb lb cap b1 b2 D c1 kc2 wk) : wk.cell? ⟨b2, 2, none⟩ = some (.string ⟨#[101, 108, 109]⟩) := cell_of_heap h.x2
theorem KS.y10 (h : KS w d pb lb cap b1 b2 D kc1 c2 wk) : wk.cell? ⟨b1, 0, none⟩ = some (.int .i64 1) := cell_of_heap h.x1
theorem KS.y11 (h : KS w d pb lb cap b1 b2 D kc1 c2 wk) : wk.cell? ⟨b1, 1, none⟩ = some (.int .i64 7) := cell_of_heap h.x1
theorem KS.y12 (h : KS w d pb lb cap b1 b2 D kc1 c2 wk) : wk.cell? ⟨b1, 2, none⟩ = some (.string ⟨#[111, 97, 107]⟩) := cell_of_heap h.x1
theorem kh_size : kh1.size = 16 ∧ kh2.size = 16 := ⟨by kernel_rfl, by kernel_rfl⟩
theorem kS1 (h : KS w d pb lb cap b1 b2 kD0 c1 c2 wk) : Calls Tryd.prog 25 #[.pointer (some ⟨d, 0, none⟩), .int .i64 1, .string kh1] wk fun e w' => e = .returned (.int .i64 0) ∧ ∃ lb' cap', KS w d pb lb' cap' b1 b2 kD1.2 c1 c2 w' := by
  obtain ⟨e1, e2, e3⟩ := kL0
  refine (sealD_any 1 kh1 h.isd h.ok (by omega) (by rw [kh_size.1]; decide) (by omega) (by omega)).mono ?_
  rintro e w' ⟨rfl, lb', cap', hD, hM, hl⟩
  have hk : sealD kD0 1 kh1.data.toList = kD1 := by simp [kD1, kh1]
  rw [hk] at hD ⊢
  rw [kD1_0]
  exact ⟨rfl, lb', cap', h.step hD hM hl⟩
theorem kS2 (h : KS w d pb lb cap b1 b2 kD1.2 c1 c2 wk) : Calls Tryd.prog 25 #[.pointer (some ⟨d, 0, none⟩), .int .i64 2, .string kh2] wk fun e w' => e = .returned (.int .i64 0) ∧ ∃ lb' cap', KS w d pb lb' cap' b1 b2 kD2.2 c1 c2 w' := by
  obtain ⟨e1, e2, e3⟩ := kL1
  refine (sealD_any 2 kh2 h.isd h.ok (by omega) (by rw [kh_size.2]; decide) (by omega) (by omega)).mono ?_
  rintro e w' ⟨rfl, lb', cap', hD, hM, hl⟩
  have hk : sealD kD1.2 2 kh2.data.toList = kD2 := by simp [kD2, kh2]
  rw [hk] at hD ⊢
  rw [kD2_0]
  exact ⟨rfl, lb', cap', h.step hD hM hl⟩
theorem kLo : kD2.2.nopen = 0 ∧ kD3.2.nopen = 1 := ⟨by kernel_rfl, by kernel_rfl⟩
theorem kO1 (h : KS w d pb lb cap b1 b2 kD2.2 c1 c2 wk) : Calls Tryd.prog 26 #[.pointer (some ⟨d, 0, none⟩), .agg #[.int .i64 1, .int .i64 7, .string ⟨#[111, 97, 107]⟩]] wk fun e w' => e = .returned (.tuple #[.bool true, .int .i64 0]) ∧ ∃ lb' cap', KS w d pb lb' cap' b1 b2 kD3.2 c1 c2 w' := by
  obtain ⟨e1, e2, e3, e4⟩ := kL2
  have e5 := kLo.1
  refine (open_any 1 7 ⟨oakL.toArray⟩ h.isd h.ok (by omega) (by decide) (by omega) (by omega) (by omega) (by omega)).mono ?_
  rintro e w' ⟨rfl, lb', cap', hD, hM, hl⟩
  have hk : openD kD2.2 1 7 (⟨oakL.toArray⟩ : ByteArray).data.toList = kD3 := by simp [kD3]
  rw [hk] at hD ⊢
  rw [kD3_0]
  exact ⟨rfl, lb', cap', h.step hD hM hl⟩
theorem kO2 (h : KS w d pb lb cap b1 b2 kD3.2 c1 c2 wk) : Calls Tryd.prog 26 #[.pointer (some ⟨d, 0, none⟩), .agg #[.int .i64 2, .int .i64 9, .string ⟨#[101, 108, 109]⟩]] wk fun e w' => e = .returned (.tuple #[.bool true, .int .i64 0]) ∧ ∃ lb' cap', KS w d pb lb' cap' b1 b2 kD4.2 c1 c2 w' := by
  obtain ⟨e1, e2, e3, e4⟩ := kL3
  have e5 := kLo.2
  refine (open_any 2 9 ⟨elmL.toArray⟩ h.isd h.ok (by omega) (by decide) (by omega) (by omega) (by omega) (by omega)).mono ?_
  rintro e w' ⟨rfl, lb', cap', hD, hM, hl⟩
  have hk : openD kD3.2 2 9 (⟨elmL.toArray⟩ : ByteArray).data.toList = kD4 := by simp [kD4]
  rw [hk] at hD ⊢
  rw [kD4_0]
  exact ⟨rfl, lb', cap', h.step hD hM hl⟩
theorem kVal (h : KS w d pb lb cap b1 b2 kD4.2 c1 c2 wk) : Calls Tryd.prog 21 #[.pointer (some ⟨d, 0, none⟩)] wk fun e w' => e = .returned (.tuple #[.int .i64 4, .int .i64 0]) ∧ Below wk.heap.size wk w' := by
  obtain ⟨e1, e2⟩ := kL4
  have := value_any h.isd (by omega) (by omega) (by omega)
  rw [kV] at this
  exact this
set_option maxRecDepth 100000 in
set_option maxHeartbeats 2000000 in
theorem known_any (w : World) (hw : Ok w) :
    Calls Tryd.prog 9 #[] w fun e w' => e = .returned (.bool true) ∧ Below w.heap.size w w' := by
  have hf := fun (w : World) (hw : Ok w) => hash_any ⟨#[102, 111, 111, 98, 97, 114]⟩ (by decide) w hw
  simp only [hash_foobar] at hf
  go_enter Tryd.func9, Tryd.ntmps9
  go_wp2_with fail
  refine (hf _ hw).mono ?_
  rintro e w1 ⟨rfl, hb1⟩
  have ok1 := hw.below hb1
  go_wp2_with fail
  refine (split_any 3 10 _ [4, 8] _ (Sl.two' _ _ _ _) (by simp)).mono ?_
  rw [split_known]
  rintro e w2 ⟨v2, rfl, hown2, hb2⟩
  replace hown2 : w2.ownsRow (w1.heap.size + 1) 3 1 v2 3 [.int .i64 4, .int .i64 8, .int .i64 1] := by simpa using hown2
  replace hb2 : Below w1.heap.size w1 w2 := ((Below.refl _ _).alloc (Nat.le_refl _) _).trans (hb2.mono (by simp))
  obtain ⟨g2, cap2, rfl, hg2⟩ : ∃ g cap, v2 = .slice (some ⟨g, 0, none⟩) 3 cap ∧ w1.heap.size < g := by
    rcases hown2.2 with ⟨_, h0⟩ | ⟨g, cap, cur, hv, hg, _⟩
    · cases h0
    · exact ⟨g, cap, hv, hg⟩
  have hc2 : w2.cell? ⟨g2, 2, none⟩ = some (.int .i64 1) := by
    have := hown2.cellAt 2 (by decide)
    simpa using this
  have hgl : g2 < w2.heap.size := own_lt hown2
  simp only
  go_wp2_with fail
  refine (new_ok 12 2 _ (ok1.below hb2) (by decide) (by decide)).mono ?_
  rintro e w3 ⟨d, pb, lb, cap, rfl, hD, hb3, hd3, hp3, hl3⟩
  have hc3 : w3.cell? ⟨g2, 2, none⟩ = some (.int .i64 1) := (hb3.cell (p := ⟨g2, 2, none⟩) hgl).trans hc2
  clear hc2 hown2 hg2
  go_wp2_with fail
  have k0 : KS w d pb lb cap w3.heap.size (w3.heap.size + 1) kD0 kc1 kc2
      ((w3.alloc (Obj.cells #[.int .i64 1, .int .i64 7, .string ⟨#[111, 97, 107]⟩] 23)).alloc (Obj.cells #[.int .i64 2, .int .i64 9, .string ⟨#[101, 108, 109]⟩] 23)) := by
    have hb : Below w3.heap.size w3 ((w3.alloc (Obj.cells #[.int .i64 1, .int .i64 7, .string ⟨#[111, 97, 107]⟩] 23)).alloc (Obj.cells #[.int .i64 2, .int .i64 9, .string ⟨#[101, 108, 109]⟩] 23)) := ((Below.refl _ _).alloc (Nat.le_refl _) _).alloc (by simp) _
    have hd := lt_of_heap hD.self
    have hp := lt_of_heap hD.pers
    have hl := own_lt hD.lines
    have z1 := hb1.size
    have z2 := hb2.size
    have z3 := hb3.size
    refine ⟨hD.below hb, ((ok1.below hb2).below hb3).below hb, ((hb1.trans (hb2.mono z1)).trans (hb3.mono (by omega))).trans (hb.mono (by omega)), by omega, by omega, by omega, ?_, ?_, ?_, ?_⟩
    · have := World.alloc_heap_new w3 (Obj.cells #[.int .i64 1, .int .i64 7, .string ⟨#[111, 97, 107]⟩] 23)
      exact (Below.heap_alloc (w3.alloc _) _ w3.heap.size (by simp)).trans this
    · have := World.alloc_heap_new (w3.alloc (Obj.cells #[.int .i64 1, .int .i64 7, .string ⟨#[111, 97, 107]⟩] 23)) (Obj.cells #[.int .i64 2, .int .i64 9, .string ⟨#[101, 108, 109]⟩] 23)
      rw [show (w3.alloc (Obj.cells #[.int .i64 1, .int .i64 7, .string ⟨#[111, 97, 107]⟩] 23)).heap.size = w3.heap.size + 1 by simp] at this
      exact this
    · simp; omega
    · simp; omega
  have hc4 : ((w3.alloc (Obj.cells #[.int .i64 1, .int .i64 7, .string ⟨#[111, 97, 107]⟩] 23)).alloc (Obj.cells #[.int .i64 2, .int .i64 9, .string ⟨#[101, 108, 109]⟩] 23)).heap.size = w3.heap.size + 2 := by simp
  generalize ((w3.alloc (Obj.cells #[.int .i64 1, .int .i64 7, .string ⟨#[111, 97, 107]⟩] 23)).alloc (Obj.cells #[.int .i64 2, .int .i64 9, .string ⟨#[101, 108, 109]⟩] 23)) = w4 at k0 hc4 ⊢
  generalize w3.heap.size = b1 at k0 ⊢
  clear hc4 hc3 hl3 hp3 hd3 hb3 hD hgl hb2 hb1 ok1 hf
  refine (kseal_oak w4 k0.ok).mono ?_
  rintro e w5 ⟨rfl, hb5⟩
  have k1 := k0.stepB hb5
  have b20 := k1.y20; have b21 := k1.y21; have b22 := k1.y22
  clear k0
  go_wp2_with fail
  clear b20 b21 b22
  refine (kseal_elm w5 k1.ok).mono ?_
  rintro e w6 ⟨rfl, hb6⟩
  replace k1 := k1.stepB hb6
  go_wp2_with fail
  refine (kS1 k1).mono ?_
  rintro e w7 ⟨rfl, lb7, cap7, k2⟩
  clear k1
  go_wp2_with fail
  refine (kS2 k2).mono ?_
  rintro e w8 ⟨rfl, lb8, cap8, k3⟩
  clear k2
  have b10 := k3.y10; have b11 := k3.y11; have b12 := k3.y12
  go_wp2_with fail
  clear b10 b11 b12
  refine (kO1 k3).mono ?_
  rintro e w9 ⟨rfl, lb9, cap9, k4⟩
  clear k3
  have b20 := k4.y20; have b21 := k4.y21; have b22 := k4.y22
  go_wp2_with fail
  clear b20 b21 b22
  refine (kO2 k4).mono ?_
  rintro e w10 ⟨rfl, lb10, cap10, k5⟩
  clear k4
  go_wp2_with fail
  refine (kVal k5).mono ?_
  rintro e w11 ⟨rfl, hb11⟩
  go_wp2
  go_ret
  exact ⟨rfl, k5.bel.trans (hb11.mono k5.bel.size)⟩
end Go.Proofs.YtcmpindjgfojaaaDoor
