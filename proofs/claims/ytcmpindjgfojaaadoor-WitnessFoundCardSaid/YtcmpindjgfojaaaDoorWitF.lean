/- Walks: a drawing's Seal. -/
import Derived.Test.YtcmpindjgfojaaaDoorWitE
namespace Go.Proofs.YtcmpindjgfojaaaDoor
open Go.RowKit

variable {B : Nat} {w : World} {d pb lb cap : Nat} {D : Drw}
theorem joinL_len (ws : List (List UInt8)) : (Lib.join ws [32]).length ≤ (ws.map List.length).sum + ws.length := by
  match ws with
  | [] => simp [Lib.join]
  | [x] => simp [Lib.join]
  | x :: y :: r =>
    have := joinL_len (y :: r)
    simp [Lib.join] at this ⊢
    omega
theorem join_lit {b c : Nat} (ws : List (List UInt8)) (hb : w.heap[b]? = some (.cells (ws.map strV).toArray 9 (0, 0))) (hc : ws.length ≤ c) (hl : ws.length ≤ 1000) (hj : (Lib.join ws [32]).length ≤ 1000000) :
    ∀ W, Below w.heap.size w W → Calls Tryd.prog 31 #[.slice (some ⟨b, 0, none⟩) ws.length c, .string ⟨#[32]⟩] W fun e w' => e = .returned (.string ⟨(Lib.join ws [32]).toArray⟩) ∧ Below W.heap.size W w' := by
  intro W hW
  have hbW := (hW.block b (lt_of_heap hb)).trans hb
  have e1 : ((ws.map fun l => (⟨l.toArray⟩ : ByteArray)).map fun s : ByteArray => s.data.toList) = ws := by
    rw [List.map_map]
    have : ((fun s : ByteArray => s.data.toList) ∘ fun l : List UInt8 => (⟨l.toArray⟩ : ByteArray)) = id := by funext l; simp
    rw [this, List.map_id]
  have := Tryd.strings_Join b 0 c (ws.map fun l => ⟨l.toArray⟩) ⟨#[32]⟩ W (fun j x hx => by
      rw [cell_of_heap hbW]
      simp only [List.getElem?_map, Option.map_eq_some_iff] at hx
      obtain ⟨l, hl, rfl⟩ := hx
      simp [hl, strV]) (lt_of_heap hbW) (by simp; omega) (by simpa using hc) (by rw [e1]; exact Nat.le_trans hj (by decide))
  rw [e1] at this
  simpa using this

/-- A line is added to a drawing. -/
theorem write_D {b c : Nat} (ws : List (List UInt8)) (h : IsD B w d pb lb cap D) (hw : Ok w) (hb : w.heap[b]? = some (.cells (ws.map strV).toArray 9 (0, 0))) (hc : ws.length ≤ c) (hl : ws.length ≤ 1000) (hj : (Lib.join ws [32]).length ≤ 1000000)
    (hn : D.lines.length ≤ 1000000) :
    Calls Tryd.prog 46 #[.pointer (some ⟨d, 0, none⟩), .slice (some ⟨b, 0, none⟩) ws.length c] w fun e w' => e = .returned (.int .i64 (D.lines.length + 1)) ∧
      ∃ lb' cap', IsD B w' d pb lb' cap' { D with lines := D.lines ++ [lineL ws] } ∧ ModL [d, lb] w w' ∧ (lb' = lb ∨ w.heap.size ≤ lb') := by
  have hd := lt_of_heap h.self
  have hp := lt_of_heap h.pers
  have hbd := h.bd
  refine (write_next d lb cap b ws.length c B _ _ ws D.lines w hw (by omega) h.self rfl h.dl h.lines hn hj (join_lit ws hb hc hl hj)).mono ?_
  rintro e w' ⟨he, g, cap', hm, hs, hown, hg, hgd⟩
  refine ⟨he, g, cap', ⟨hs, ?_, hown, h.dp, Ne.symm hgd, ?_, h.bd, h.bp, ?_, h.b8⟩, hm, hg⟩
  · exact (hm.block pb hp (by simp [Ne.symm h.dp, h.pl])).trans h.pers
  · rcases hg with rfl | hg
    · exact h.pl
    · omega
  · have hbl := h.bl
    rcases hg with rfl | hg
    · exact hbl
    · omega

/-- What Seal does to a drawing. -/
def sealD (D : Drw) (n : Int) (hash : List UInt8) : Int × Drw :=
  if ¬ (1 ≤ n ∧ n ≤ (D.pers.length : Int)) then (7, D) else if hashB hash = false then (4, D) else
  match D.pers[n.toNat - 1]? with
  | none => (7, D)
  | some p => if 0 < p.sl then (6, D) else
    (0, { D with lines := D.lines ++ [lineL [[115, 101, 97, 108], Lib.itoa n, hash]], pers := D.pers.set (n.toNat - 1) { p with hash := hash, sl := D.lines.length + 1 }, nseal := D.nseal + 1 })

def SealP (B : Nat) (w : World) (d pb lb : Nat) (r : Int × Drw) (e : Ending) (w' : World) : Prop :=
  e = .returned (.int .i64 r.1) ∧ ∃ lb' cap', IsD B w' d pb lb' cap' r.2 ∧ ModL [d, pb, lb] w w' ∧ (lb' = lb ∨ w.heap.size ≤ lb')
set_option maxRecDepth 100000 in
set_option maxHeartbeats 1000000 in
theorem seal_nil (n : Int) (s : ByteArray) (w : World) :
    Calls Tryd.prog 25 #[.pointer none, .int .i64 n, .string s] w fun e w' => e = .returned (.int .i64 1) ∧ w = w' := by
  go_enter Tryd.func25, Tryd.ntmps25
  go_wp2
  go_ret
  exact ⟨rfl, rfl⟩
theorem seal_len (n : Int) (l : List UInt8) (h0 : 0 ≤ n) (h1 : n ≤ 9223372036854775807) (h : hashB l = true) : (Lib.join [[115, 101, 97, 108], Lib.itoa n, l] [32]).length ≤ 1000000 := by
  have := joinL_len [[115, 101, 97, 108], Lib.itoa n, l]
  have h2 := Lib.itoa_length_le n (by omega) h1
  have h3 : l.length = 16 := by
    simp only [hashB, Bool.and_eq_true, decide_eq_true_eq] at h
    exact h.1
  simp at this
  omega
set_option maxRecDepth 100000 in
set_option maxHeartbeats 1000000 in
theorem sealD_any (n : Int) (s : ByteArray) (h : IsD B w d pb lb cap D) (hw : Ok w) (hl : D.pers.length ≤ 30) (hs : s.size ≤ 140737488351232) (hn : D.lines.length ≤ 1000000) (hns : D.nseal ≤ 1000000) :
    Calls Tryd.prog 25 #[.pointer (some ⟨d, 0, none⟩), .int .i64 n, .string s] w (SealP B w d pb lb (sealD D n s.data.toList)) := by
  by_cases h1 : 1 ≤ n ∧ n ≤ (D.pers.length : Int)
  · have hf := find_yes n h hl h1.1 h1.2
    obtain ⟨p, hp⟩ := get_some (xs := D.pers) (k := n.toNat - 1) (by omega)
    cases h2 : hashB s.data.toList with
    | true =>
      by_cases h3 : 0 < p.sl
      · have hr : sealD D n s.data.toList = (6, D) := by
          simp only [sealD, h1, h2, hp, h3]; simp
        rw [hr]
        have HF := Lib.hid hf
        have HP := Lib.hid hp
        have H2 := Lib.hid h2
        have h30 : (0 : Int) < (p.sl : Int) := by omega
        clear hf hp h2 hr h1 h3
        go_enter Tryd.func25, Tryd.ntmps25
        go_wp2_with (first | (go_at_call 48; refine HF.out.mono ?_; rintro e w' ⟨rfl, rfl⟩) | (go_at_call 49; refine (isHash_any s hs _).mono ?_; rw [H2.out]; rintro e w1 ⟨rfl, hb1⟩; have hD1 := h.below hb1; have hp2 := hD1.p2 HP.out))
        go_ret
        exact ⟨rfl, lb, cap, hD1, ModL.of_below hb1, .inl rfl⟩
      · have hpsl : p.sl = 0 := by omega
        have hr : sealD D n s.data.toList = (0, { D with lines := D.lines ++ [lineL [[115, 101, 97, 108], Lib.itoa n, s.data.toList]], pers := D.pers.set (n.toNat - 1) { p with hash := s.data.toList, sl := D.lines.length + 1 }, nseal := D.nseal + 1 }) := by
          simp only [sealD, h1, h2, hp, h3]; simp
        rw [hr]
        have HF := Lib.hid hf
        have HP := Lib.hid hp
        have H2 := Lib.hid h2
        have h10 := h1.1
        have h11 := h1.2
        clear hf hp h2 hr h1 h3
        go_enter Tryd.func25, Tryd.ntmps25
        go_wp2_with (first | (go_at_call 48; refine HF.out.mono ?_; rintro e w' ⟨rfl, rfl⟩) | (go_at_call 49; refine (isHash_any s hs _).mono ?_; rw [H2.out]; rintro e w1 ⟨rfl, hb1⟩; have hD1 := h.below hb1; have hp2 := hD1.p2 HP.out))
        have hst : Stay w.heap.size w w1.drew := ⟨hb1.trans (Below.refl _ _).drew, hb1.size, (hw.below hb1).below (Below.refl _ _).drew⟩
        have hdp := h.dp
        have hdp' := Ne.symm h.dp
        clear hb1 hp2 hD1
        go_region_law
          (first
          | (go_simp; go_at_call 47; refine (number_any _ ?_ ?_ _ ?_).mono ?_; omega; omega; (exact hst.ok); rintro e w2 ⟨rfl, hb2⟩; replace hst := hst.step hb2; clear hb2)
          | (go_simp; go_at_call 46
             have hD3 := h.below (hst.step ((Below.refl _ _).alloc (Nat.le_refl _) (Obj.cells #[.string ⟨#[115, 101, 97, 108]⟩, .string ⟨(Lib.itoa n).toArray⟩, .string s] 9))).1
             refine (write_D [[115, 101, 97, 108], Lib.itoa n, s.data.toList] hD3 (hst.step ((Below.refl _ _).alloc (Nat.le_refl _) _)).ok (heap_alloc_new _ _) (Nat.le_refl _) (by simp) ?hj hn).mono ?_
             (case hj => exact seal_len n s.data.toList (by omega) (by omega) H2.out)
             rintro e w4 ⟨rfl, lb4, cap4, hD4, hM4, hlb4⟩
             have q0 : w4.cell? ⟨pb, (n.toNat - 1) * 5, none⟩ = some (strV p.hash) := hD4.p0 HP.out
             have q2 : w4.cell? ⟨pb, (n.toNat - 1) * 5 + 2, none⟩ = some (.int .i64 p.sl) := hD4.p2 HP.out
             have q3 : w4.cell? ⟨d, 3, none⟩ = some (.int .i64 D.nseal) := hD4.c3
             have f0 := hD4.fp ((n.toNat - 1) * 5)
             have f2 := hD4.fp ((n.toNat - 1) * 5 + 2)
             have f3 := hD4.fd 3))
        go_wp2
        go_ret
        have e1 := hD4.setP (k := n.toNat - 1) (i := 0) (o := (n.toNat - 1) * 5) (p := p) (q := { p with hash := s.data.toList }) (v := .string s) HP.out rfl (by decide) rfl
        have e2 := e1.setP (k := n.toNat - 1) (i := 2) (p := { p with hash := s.data.toList }) (q := { p with hash := s.data.toList, sl := D.lines.length + 1 }) (v := .int .i64 (D.lines.length + 1)) (List.getElem?_set_self (by show n.toNat - 1 < D.pers.length; omega)) rfl (by decide) rfl
        have e3 := e2.setD (i := 3) (v := .int .i64 (D.nseal + 1)) (D' := { D with lines := D.lines ++ [lineL [[115, 101, 97, 108], Lib.itoa n, s.data.toList]], pers := D.pers.set (n.toNat - 1) { p with hash := s.data.toList, sl := D.lines.length + 1 }, nseal := D.nseal + 1 }) (by simp [drwC]) (by simp) rfl
        have hz := hst.2.1
        refine ⟨rfl, lb4, cap4, e3, ?_, ?_⟩
        · have m1 : ModL [d, pb, lb] w w4 := ((ModL.of_below hst.1).alloc _).trans (hM4.mono (by simp))
          exact ((m1.setCell (p := ⟨pb, _, none⟩) (by simp) _).setCell (p := ⟨pb, _, none⟩) (by simp) _).setCell (p := ⟨d, 3, none⟩) (by simp) _
        · rcases hlb4 with hlb4 | hlb4
          · exact .inl hlb4
          · simp at hlb4
            exact .inr (by omega)
    | false =>
      have hr : sealD D n s.data.toList = (4, D) := by
        simp only [sealD, h1, h2]; simp
      rw [hr]
      have HF := Lib.hid hf
      have H2 := Lib.hid h2
      clear hf hp h2 hr h1
      go_enter Tryd.func25, Tryd.ntmps25
      go_wp2_with (first | (go_at_call 48; refine HF.out.mono ?_; rintro e w' ⟨rfl, rfl⟩) | (go_at_call 49; refine (isHash_any s hs _).mono ?_; rw [H2.out]; rintro e w1 ⟨rfl, hb1⟩))
      go_ret
      exact ⟨rfl, lb, cap, h.below hb1, ModL.of_below hb1, .inl rfl⟩
  · have hr : sealD D n s.data.toList = (7, D) := by simp only [sealD, if_pos h1]
    rw [hr]
    have hf := find_no n h hl h1
    have HF := Lib.hid hf
    clear h1 hr hf
    go_enter Tryd.func25, Tryd.ntmps25
    go_wp2_with (first | (go_at_call 48; refine HF.out.mono ?_; rintro e w' ⟨rfl, rfl⟩))
    go_ret
    exact ⟨rfl, lb, cap, h, ModL.of_below (Below.refl _ _), .inl rfl⟩
end Go.Proofs.YtcmpindjgfojaaaDoor
