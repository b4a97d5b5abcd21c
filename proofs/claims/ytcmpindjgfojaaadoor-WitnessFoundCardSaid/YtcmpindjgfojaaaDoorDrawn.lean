/- Walks: salted, drawn. -/
import Derived.Test.YtcmpindjgfojaaaDoorOneP
import Derived.Test.YtcmpindjgfojaaaDoorDev
namespace Go.Proofs.YtcmpindjgfojaaaDoor
open Go.RowKit

set_option maxRecDepth 100000 in
set_option maxHeartbeats 400000 in
theorem salted_any (n : Nat) (hn : n < 256) (w : World) :
    Calls Tryd.prog 24 #[.int .u8 n] w fun e w' => e = .returned (.string ⟨(saltL n).toArray⟩) ∧ Below w.heap.size w w' := by
  have hconv : (convert 40 9 (.slice (some ⟨w.heap.size, 0, none⟩) 2 2)).run Tryd.prog (w.alloc (Obj.cells #[.int .u8 (97 + (n : Int) % 26), .int .u8 (48 + (n : Int) % 10)] 5)) = .ok (.string ⟨(saltL n).toArray⟩) (w.alloc (Obj.cells #[.int .u8 (97 + (n : Int) % 26), .int .u8 (48 + (n : Int) % 10)] 5)) := by
    refine run_convert_bytes_back _ 40 9 5 ⟨w.heap.size, 0, none⟩ 2 (saltL n) Tryd.underlying40 Tryd.underlying5 Tryd.underlying9 (fun j hj => ?_)
    have h2 : (saltL n).length = 2 := rfl
    rw [h2] at hj
    match j, hj with
    | 0, hj => simp [Addr.add, World.cell?_alloc_new, saltL]; omega
    | 1, hj => simp [Addr.add, World.cell?_alloc_new, saltL]; omega
  have h26 : (n : Int) % 26 < 26 := Int.emod_lt_of_pos _ (by decide)
  have h26' : 0 ≤ (n : Int) % 26 := Int.emod_nonneg _ (by decide)
  have h10 : (n : Int) % 10 < 10 := Int.emod_lt_of_pos _ (by decide)
  have h10' : 0 ≤ (n : Int) % 10 := Int.emod_nonneg _ (by decide)
  go_enter Tryd.func24, Tryd.ntmps24
  go_wp2
  go_ret
  exact ⟨rfl, (Below.refl _ _).alloc (Nat.le_refl _) _⟩

def hshL (vals : List Int) (salt : Nat) (j : Nat) : List UInt8 := hashL (textL ((j : Int) + 1) (vals.getD j 0) (saltL ((salt + j) % 256)))
def DrawnP (w : World) (below : Int) (vals : List Int) (e : Ending) (w' : World) : Prop :=
  ∃ d pb lb cap D, e = .returned (.pointer (some ⟨d, 0, none⟩)) ∧ IsD 8 w' d pb lb cap D ∧ Below w.heap.size w w' ∧ devs D = [] ∧ valR D = (vals.sum % below, 0) ∧ D.pers.length = vals.length ∧ D.below = below

set_option maxRecDepth 100000 in
set_option maxHeartbeats 4000000 in
theorem drawn_any (below : Int) (vals : List Int) (v : Value) (salt : Nat) (w : World) (hw : Ok w) (hv : Sl (.int .i64) w v vals) (hl1 : 1 ≤ vals.length) (hl2 : vals.length ≤ 30) (hb : 1 ≤ below ∧ below ≤ 1000000000) (hx : ∀ x ∈ vals, 0 ≤ x ∧ x ≤ below - 1) (hs : salt < 256) :
    Calls Tryd.prog 20 #[.int .i64 below, v, .int .u8 salt] w (DrawnP w below vals) := by
  obtain ⟨a, c, rfl, hcap, hcell⟩ := hv
  obtain ⟨b0, off, rfl, hbw0, hcells⟩ := hcell (by omega)
  have HB := Lib.hid hb; have HC := Lib.hid hcells; have HX := Lib.hid hx
  have hb1a := hb.1
  have hb1b := hb.2
  clear hcell hb hcells hx
  go_enter Tryd.func20, Tryd.ntmps20
  go_wp2_with fail
  refine (new_ok below vals.length w hw HB.out ⟨hl1, hl2⟩).mono ?_
  rintro e w1 ⟨d, pb, lb, cap, rfl, hD, hb1, hd, hp, hlb⟩
  have hok1 := hw.below hb1
  go_wp2
  go_loopw [9] (fun i wr => ∃ (k lb cap : Nat) (D : Drw), k ≤ vals.length ∧ i = .int .i64 k ∧ IsD 8 wr d pb lb cap D ∧ Dr1 below vals.length (hshL vals salt) k D ∧ Ok wr ∧ Below w.heap.size w wr ∧ w.heap.size ≤ lb) (fun i _ => vals.length - (intOf i).toNat)
  case atStart => exact ⟨0, lb, cap, _, Nat.zero_le _, rfl, hD, Dr1.new _ _ _, hok1, hb1, hlb⟩
  case round =>
    clear hD hlb
    obtain ⟨k, lb, cap, D, hk, rfl, hD, h1, hok, hbr, hlb⟩ := hrel
    have hwz := hbr.size
    by_cases hlt : k < vals.length
    · obtain ⟨x, hxk⟩ := get_some hlt
      have hcx : wr.cell? ⟨b0, off + k, none⟩ = some (.int .i64 x) := (hbr.cell (p := ⟨b0, off + k, none⟩) hbw0).trans (HC.out k x hxk)
      have hxb := HX.out x (List.mem_of_getElem? hxk)
      have hx0 := hxb.1
      have hx1 := hxb.2
      have hm := Nat.mod_lt (salt + k) (show 0 < 256 by decide)
      have hwk : IntKind.u8.wrap (k : Int) = k := by simp only [IntKind.wrap, IntKind.signed, IntKind.bits]; simp; omega
      have hws : IntKind.u8.wrap ((salt : Int) + k) = (((salt + k) % 256 : Nat) : Int) := by simp only [IntKind.wrap, IntKind.signed, IntKind.bits]; simp
      have hgd : vals.getD k 0 = x := by simp [List.getD, hxk]
      have hsr : sealR ((k : Int) + 1) x (saltL ((salt + k) % 256)) = (hshL vals salt k, 0) := by
        unfold sealR boxB
        rw [saltL_ok hm]
        rw [if_pos (by simp; omega)]
        unfold hshL; rw [hgd]
      have hst : Stay wr.heap.size wr wr.drew := ⟨(Below.refl _ _).drew, Nat.le_refl _, hok.below (Below.refl _ _).drew⟩
      have HCX := Lib.hid hcx; have HSR := Lib.hid hsr
      generalize hsl : (salt + k) % 256 = sk at hm hws HSR
      have hbw1 : b0 < wr.heap.size := by omega
      have hseal : ∀ W, Ok W → Calls Tryd.prog 11 #[.agg #[.int .i64 ((k : Int) + 1), .int .i64 x, .string ⟨(saltL sk).toArray⟩]] W fun e w' => e = .returned (.tuple #[.string ⟨(hshL vals salt k).toArray⟩, .int .i64 0]) ∧ Below W.heap.size W w' := by
        intro W hW
        have := seal2_any ((k : Int) + 1) x ⟨(saltL sk).toArray⟩ (by show (saltL sk).toArray.size ≤ _; simp [saltL]) W hW
        simp only [List.toList_toArray, HSR.out] at this
        exact this
      have HSeal := Lib.hid hseal
      have hwi : IntKind.i64.wrap ((k : Int) + 1) = (k : Int) + 1 := by rw [IntKind.wrap_i64]; omega
      clear hcx hsr hxb hgd hsl hxk hseal
      go_wp2
      go_region_held3 (fun w' => w'.cell? ⟨b0, off + k, none⟩ = some (.int .i64 x))
        (exact hst.cell hbw1 HCX.out)
        (first
        | (go_at_call 24; refine (salted_any sk hm _).mono ?_; rintro e w2 ⟨rfl, hb2⟩; replace hst := hst.step hb2; clear hb2)
        | (go_at_call 11; refine (HSeal.out _ ?_).mono ?_; (exact hst.ok); rintro e w3 ⟨rfl, hb3⟩; replace hst := hst.step hb3; clear hb3))
      have hD2 := hD.below hst.1
      have hln := h1.ln
      have hns := h1.ns
      have hlen := h1.len
      obtain ⟨D', hsd, h1'⟩ := h1.step hlt (hashL_ok _)
      have hdd : 8 ≤ d := hD.bd
      go_wp2_with fail
      refine (sealD_any ((k : Int) + 1) ⟨(hshL vals salt k).toArray⟩ hD2 hst.ok (by omega) ?hsz (by omega) (by omega)).mono ?_
      case hsz =>
        have := hashL_ok (textL ((k : Int) + 1) (vals.getD k 0) (saltL ((salt + k) % 256)))
        unfold hashB at this
        simp only [Bool.and_eq_true, decide_eq_true_eq] at this
        show (hshL vals salt k).toArray.size ≤ _
        simp only [List.size_toArray]
        unfold hshL
        omega
      simp only [List.toList_toArray, hsd]
      rintro e w5 ⟨rfl, lb5, cap5, hD5, hM5, hl5⟩
      have hsz1 := hst.2.1
      have hgd8 : ∀ y ∈ [d, pb, lb], w.heap.size ≤ y := by simp; omega
      have hgd9 : ∀ y ∈ [d, pb, lb], 8 ≤ y := by
        have := hw.size
        simp; omega
      have hb5 : Below w.heap.size w w5 := (hbr.trans (hst.1.mono hwz)).trans (hM5.below (by omega) hgd8)
      have hok5 : Ok w5 := hM5.ok hst.ok hgd9
      go_wp2
      go_roundw
      case rel => exact ⟨k + 1, lb5, cap5, D', by omega, by simp, hD5, h1', hok5, hb5, by omega⟩
      case measure => simp [intOf]; omega
    · obtain rfl : k = vals.length := by omega
      have hlast : IntKind.i64.wrap ((vals.length : Int) - 1) = (vals.length : Int) - 1 := by rw [IntKind.wrap_i64]; omega
      go_wp2
      go_loopw [12] (fun i wr => ∃ (m lb cap : Nat) (D : Drw), m ≤ vals.length ∧ i = .int .i64 ((vals.length : Int) - 1 - m) ∧ IsD 8 wr d pb lb cap D ∧ Dr2 below vals.length (hshL vals salt) (fun j => vals.getD j 0) m D ∧ Ok wr ∧ Below w.heap.size w wr ∧ w.heap.size ≤ lb) (fun i _ => (intOf i + 1).toNat)
      case atStart => exact ⟨0, lb, cap, D, Nat.zero_le _, by simp, hD, Dr2.of _ h1, hok, hbr, hlb⟩
      case round =>
        clear hD h1 hok hbr hlb hwz hk hlast
        obtain ⟨m, lb, cap, D, hm, rfl, hD, h2, hok, hbr, hlb⟩ := hrel
        have hwz := hbr.size
        by_cases hlt : m < vals.length
        · obtain ⟨j, hj⟩ : ∃ j : Nat, vals.length = j + m + 1 := ⟨vals.length - m - 1, by omega⟩
          have hji : (vals.length : Int) - 1 - m = (j : Int) := by omega
          rw [hji]
          have Hji := Lib.hid hji; have Hj := Lib.hid hj
          have hjn : j < vals.length := by omega
          obtain ⟨x, hxj⟩ := get_some hjn
          have hcx : wr.cell? ⟨b0, off + j, none⟩ = some (.int .i64 x) := (hbr.cell (p := ⟨b0, off + j, none⟩) hbw0).trans (HC.out j x hxj)
          have hxb := HX.out x (List.mem_of_getElem? hxj)
          have hmm := Nat.mod_lt (salt + j) (show 0 < 256 by decide)
          have hwk : IntKind.u8.wrap (j : Int) = j := by simp only [IntKind.wrap, IntKind.signed, IntKind.bits]; simp; omega
          have hws : IntKind.u8.wrap ((salt : Int) + j) = (((salt + j) % 256 : Nat) : Int) := by simp only [IntKind.wrap, IntKind.signed, IntKind.bits]; simp
          have hwi : IntKind.i64.wrap ((j : Int) + 1) = (j : Int) + 1 := by rw [IntKind.wrap_i64]; omega
          have hgd : vals.getD j 0 = x := by simp [List.getD, hxj]
          have HGD := Lib.hid hgd
          have hsk : hshL vals salt j = hashL (textL ((j : Int) + 1) x (saltL ((salt + j) % 256))) := by unfold hshL; rw [hgd]
          generalize hsl : (salt + j) % 256 = sk at hmm hws hsk
          have HSK := Lib.hid hsk
          have hst : Stay wr.heap.size wr wr.drew := ⟨(Below.refl _ _).drew, Nat.le_refl _, hok.below (Below.refl _ _).drew⟩
          have HCX := Lib.hid hcx; have HXB := Lib.hid hxb
          have hbw1 : b0 < wr.heap.size := by omega
          have hne : wr.heap.size ≠ b0 := by omega
          clear hcx hxb hgd hsl hxj hji hj hsk
          go_wp2
          go_region_held3 (fun w' => w'.cell? ⟨b0, off + j, none⟩ = some (.int .i64 x))
            (first
            | exact hst.cell hbw1 HCX.out
            | exact (hst.step ((Below.refl _ _).alloc (Nat.le_refl _) _)).cell hbw1 HCX.out
            | exact (cell_far (.inl hne) _).trans ((cell_far (.inl hne) _).trans ((cell_far (.inl hne) _).trans (hst.cell hbw1 HCX.out))))
            (first
            | (go_at_call 24; refine (salted_any sk hmm _).mono ?_; rintro e w2 ⟨rfl, hb2⟩; replace hst := hst.step hb2; clear hb2)
            | (go_at_call 24
               refine (salted_any sk hmm _).mono ?_
               rintro e w2 ⟨rfl, hb2⟩
               have hbx : w2.heap[wr.heap.size]? = some (.cells #[.int .i64 0, .int .i64 0, .string ⟨#[]⟩] 23 (0, 0)) := (hb2.block wr.heap.size (by simp)).trans (World.alloc_heap_new wr _)
               have z0 : w2.cell? ⟨wr.heap.size, 0, none⟩ = some (.int .i64 0) := cell_of_heap hbx
               have z1 : w2.cell? ⟨wr.heap.size, 1, none⟩ = some (.int .i64 0) := cell_of_heap hbx
               have z2 : w2.cell? ⟨wr.heap.size, 2, none⟩ = some (.string ⟨#[]⟩) := cell_of_heap hbx
               have f0 : w2.frozen? ⟨wr.heap.size, 0, none⟩ = false := free_of_heap hbx
               have f1 : w2.frozen? ⟨wr.heap.size, 1, none⟩ = false := free_of_heap hbx
               have f2 : w2.frozen? ⟨wr.heap.size, 2, none⟩ = false := free_of_heap hbx
               replace hst := (hst.step ((Below.refl _ wr.drew).alloc (Nat.le_refl _) (Obj.cells #[.int .i64 0, .int .i64 0, .string ⟨#[]⟩] 23))).step hb2
               have HBX := Lib.hid hbx
               clear hb2 hbx))
          · have hst3 := hst.step ((Below.refl w2.heap.size w2).alloc (Nat.le_refl _) (Obj.cells #[.int .i64 ((j : Int) + 1), .int .i64 x, .string ⟨(saltL sk).toArray⟩] 23))
            have hx3 := World.alloc_heap_new w2 (Obj.cells #[.int .i64 ((j : Int) + 1), .int .i64 x, .string ⟨(saltL sk).toArray⟩] 23)
            generalize w2.alloc (Obj.cells #[.int .i64 ((j : Int) + 1), .int .i64 x, .string ⟨(saltL sk).toArray⟩] 23) = W3 at hst3 hx3 ⊢
            generalize w2.heap.size = bx at hx3 ⊢
            clear hst
            have y0 : W3.cell? ⟨bx, 0, none⟩ = some (.int .i64 ((j : Int) + 1)) := cell_of_heap hx3
            have y1 : W3.cell? ⟨bx, 1, none⟩ = some (.int .i64 x) := cell_of_heap hx3
            have y2 : W3.cell? ⟨bx, 2, none⟩ = some (.string ⟨(saltL sk).toArray⟩) := cell_of_heap hx3
            have hD3 := hD.below hst3.1
            have hln := h2.ln
            have hno := h2.no
            have hlen := h2.len
            have hbl := h2.below
            have hopn := h2.step (i := j) (s := saltL sk) (by have := Hj.out; omega) (by rw [HGD.out]; exact HXB.out) (saltL_ok hmm) (by simp only [HGD.out]; exact HSK.out.symm)
            simp only [HGD.out] at hopn
            obtain ⟨D', hod, h2'⟩ := hopn
            have hopen := open_any ((j : Int) + 1) x ⟨(saltL sk).toArray⟩ hD3 hst3.ok (by omega) (by show (saltL sk).toArray.size ≤ _; simp [saltL]) (by omega) (by omega) (by omega) (by omega)
            simp only [List.toList_toArray, hod] at hopen
            unfold boxV at hopen
            have hsz1 := hst3.2.1
            have HO := Lib.hid hopen
            clear hopen hod hx3 hln hno hlen hbl
            simp only [Exit.then]
            go_at_K
            go_wp2_with fail
            refine HO.out.mono ?_
            rintro e w5 ⟨rfl, lb5, cap5, hD5, hM5, hl5⟩
            have hgd8 : ∀ y ∈ [d, pb, lb], w.heap.size ≤ y := by simp; omega
            have hgd9 : ∀ y ∈ [d, pb, lb], 8 ≤ y := by
              have := hw.size
              simp; omega
            have hb5 : Below w.heap.size w w5 := (hbr.trans (hst3.1.mono hwz)).trans (hM5.below (by omega) hgd8)
            have hok5 : Ok w5 := hM5.ok hst3.ok hgd9
            clear y0 y1 y2
            simp only
            go_wp2
            go_roundw
            case rel => exact ⟨m + 1, lb5, cap5, D', by omega, by have := Hji.out; go_num, hD5, h2', hok5, hb5, by omega⟩
            case measure => simp only [intOf]; omega
          · have hbe : Below wr.heap.size wr (((w2.setCell ⟨wr.heap.size, 0, none⟩ (.int .i64 ((j : Int) + 1))).setCell ⟨wr.heap.size, 1, none⟩ (.int .i64 x)).setCell ⟨wr.heap.size, 2, none⟩ (.string ⟨(saltL sk).toArray⟩)) := ((hst.1.setCell (by simp) _).setCell (by simp) _).setCell (by simp) _
            have hst3 : Stay wr.heap.size wr (((w2.setCell ⟨wr.heap.size, 0, none⟩ (.int .i64 ((j : Int) + 1))).setCell ⟨wr.heap.size, 1, none⟩ (.int .i64 x)).setCell ⟨wr.heap.size, 2, none⟩ (.string ⟨(saltL sk).toArray⟩)) := ⟨hbe, hbe.size, hok.below hbe⟩
            have hx3 : (((w2.setCell ⟨wr.heap.size, 0, none⟩ (.int .i64 ((j : Int) + 1))).setCell ⟨wr.heap.size, 1, none⟩ (.int .i64 x)).setCell ⟨wr.heap.size, 2, none⟩ (.string ⟨(saltL sk).toArray⟩)).heap[wr.heap.size]? = some (.cells #[.int .i64 ((j : Int) + 1), .int .i64 x, .string ⟨(saltL sk).toArray⟩] 23 (0, 0)) := by
              have := setCell_heap (setCell_heap (setCell_heap HBX.out (i := 0) (.int .i64 ((j : Int) + 1))) (i := 1) (.int .i64 x)) (i := 2) (.string ⟨(saltL sk).toArray⟩)
              simpa using this
            generalize (((w2.setCell ⟨wr.heap.size, 0, none⟩ (.int .i64 ((j : Int) + 1))).setCell ⟨wr.heap.size, 1, none⟩ (.int .i64 x)).setCell ⟨wr.heap.size, 2, none⟩ (.string ⟨(saltL sk).toArray⟩)) = W3 at hst3 hx3 hbe ⊢
            generalize hbxx : wr.heap.size = bx at hx3 ⊢
            clear hst z0 z1 z2 f0 f1 f2 HBX hbe hbxx
            have y0 : W3.cell? ⟨bx, 0, none⟩ = some (.int .i64 ((j : Int) + 1)) := cell_of_heap hx3
            have y1 : W3.cell? ⟨bx, 1, none⟩ = some (.int .i64 x) := cell_of_heap hx3
            have y2 : W3.cell? ⟨bx, 2, none⟩ = some (.string ⟨(saltL sk).toArray⟩) := cell_of_heap hx3
            have hD3 := hD.below hst3.1
            have hln := h2.ln
            have hno := h2.no
            have hlen := h2.len
            have hbl := h2.below
            have hopn := h2.step (i := j) (s := saltL sk) (by have := Hj.out; omega) (by rw [HGD.out]; exact HXB.out) (saltL_ok hmm) (by simp only [HGD.out]; exact HSK.out.symm)
            simp only [HGD.out] at hopn
            obtain ⟨D', hod, h2'⟩ := hopn
            have hopen := open_any ((j : Int) + 1) x ⟨(saltL sk).toArray⟩ hD3 hst3.ok (by omega) (by show (saltL sk).toArray.size ≤ _; simp [saltL]) (by omega) (by omega) (by omega) (by omega)
            simp only [List.toList_toArray, hod] at hopen
            unfold boxV at hopen
            have hsz1 := hst3.2.1
            have HO := Lib.hid hopen
            clear hopen hod hx3 hln hno hlen hbl
            simp only [Exit.then]
            go_at_K
            go_wp2_with fail
            refine HO.out.mono ?_
            rintro e w5 ⟨rfl, lb5, cap5, hD5, hM5, hl5⟩
            have hgd8 : ∀ y ∈ [d, pb, lb], w.heap.size ≤ y := by simp; omega
            have hgd9 : ∀ y ∈ [d, pb, lb], 8 ≤ y := by
              have := hw.size
              simp; omega
            have hb5 : Below w.heap.size w w5 := (hbr.trans (hst3.1.mono hwz)).trans (hM5.below (by omega) hgd8)
            have hok5 : Ok w5 := hM5.ok hst3.ok hgd9
            clear y0 y1 y2
            simp only
            go_wp2
            go_roundw
            case rel => exact ⟨m + 1, lb5, cap5, D', by omega, by have := Hji.out; go_num, hD5, h2', hok5, hb5, by omega⟩
            case measure => simp only [intOf]; omega
        · obtain rfl : m = vals.length := by omega
          have hneg : ((vals.length : Int) - 1 - (vals.length : Int)) = -1 := by omega
          rw [hneg]
          obtain ⟨hdv, hval⟩ := h2.done hb1a (fun j hj => by
            have := HX.out (vals.getD j 0) (by simp [List.getD, hj])
            exact this)
          have hmapr : (List.range vals.length).map (fun j => vals.getD j 0) = vals := by
            apply List.ext_getElem
            · simp
            · intro j h1 h2
              simp [List.getD, List.getElem?_eq_getElem h2]
          rw [hmapr] at hval
          have H := Lib.hid hval; have H' := Lib.hid hdv; have H2 := Lib.hid h2
          clear hval hdv h2 hmapr hneg
          go_wp2
          go_ret
          exact ⟨d, pb, lb, cap, D, rfl, hD, hbr, H'.out, H.out, H2.out.len, H2.out.below⟩
end Go.Proofs.YtcmpindjgfojaaaDoor
