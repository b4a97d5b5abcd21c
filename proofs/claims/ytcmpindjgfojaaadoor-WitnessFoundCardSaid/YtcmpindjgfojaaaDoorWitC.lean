/- Walks: a box, its text's hash; salts and hashes. -/
import Derived.Test.YtcmpindjgfojaaaDoorWitB
import Derived.Deep.RegionHeld3
import Derived.Deep.RegionWith
import Derived.ChangeAlike
import Derived.Lib.ItoaLen
import Derived.Shelf.Strings.SlTrimAscii
namespace Go.Proofs.YtcmpindjgfojaaaDoor
open Go.RowKit

/-- A box as a value. -/
def boxV (p v : Int) (s : ByteArray) : Value := .agg #[.int .i64 p, .int .i64 v, .string s]
/-- The text of a box. -/
def textL (p v : Int) (s : List UInt8) : List UInt8 := Lib.itoa p ++ [58] ++ Lib.itoa v ++ [58] ++ s

/-- What stays while a call goes on that has made three cells at block b. -/
def Stay (B : Nat) (W0 wk : World) : Prop := Below B W0 wk ∧ B ≤ wk.heap.size ∧ Ok wk
theorem Stay.step {B : Nat} {W0 wk w' : World} (h : Stay B W0 wk) (hb : Below wk.heap.size wk w') : Stay B W0 w' :=
  ⟨h.1.trans (hb.mono h.2.1), Nat.le_trans h.2.1 hb.size, h.2.2.below hb⟩
theorem Stay.ok {B : Nat} {W0 wk : World} (h : Stay B W0 wk) : Ok wk := h.2.2
theorem Stay.cell {B : Nat} {W0 wk : World} (h : Stay B W0 wk) {b o : Nat} {v : Value} (hb : b < B) (hc : W0.cell? ⟨b, o, none⟩ = some v) : wk.cell? ⟨b, o, none⟩ = some v :=
  (h.1.cell (p := ⟨b, o, none⟩) hb).trans hc
theorem Stay.of {w : World} (hw : Ok w) (o : Obj) : Stay (w.heap.size + 1) (w.alloc o) (w.alloc o) :=
  ⟨Below.refl _ _, by simp, ⟨hw.glb.keep ((Below.refl _ _).alloc hw.size o), by have := hw.size; simp; omega⟩⟩

theorem Stay.fin {w w' : World} {o : Obj} (h : Stay (w.heap.size + 1) (w.alloc o) w') : Below w.heap.size w w' :=
  ((Below.refl _ w).alloc (Nat.le_refl _) o).trans (h.1.mono (Nat.le_succ _))
theorem itoa_size (n : Int) (h0 : 0 ≤ n) (h1 : n ≤ 9223372036854775807) : (⟨(Lib.itoa n).toArray⟩ : ByteArray).size ≤ 140737488351232 := by
  have := Lib.itoa_length_le n (by omega) h1
  show (Lib.itoa n).toArray.size ≤ _
  simp; omega
set_option maxRecDepth 100000 in
set_option maxHeartbeats 1000000 in
theorem seal_any (p v : Int) (s : ByteArray) (hp : 0 ≤ p) (hp' : p ≤ 9223372036854775807) (hv : 0 ≤ v) (hv' : v ≤ 9223372036854775807) (hs : s.size ≤ 1000) (w : World) (hw : Ok w) :
    Calls Tryd.prog 36 #[boxV p v s] w fun e w' => e = .returned (.int .u64 (fnv (textL p v s.data.toList))) ∧ Below w.heap.size w w' := by
  have hz := hw.size
  unfold boxV
  have hst := (Stay.of hw (Obj.cells #[Value.int IntKind.i64 p, Value.int IntKind.i64 v, Value.string s] 23)).step (Below.refl _ _).drew
  go_enter Tryd.func36, Tryd.ntmps36
  go_wp2
  have c0 : (w.alloc (Obj.cells #[Value.int IntKind.i64 p, Value.int IntKind.i64 v, Value.string s] 23)).cell? ⟨w.heap.size, 0, none⟩ = some (.int .i64 p) := by simp [World.cell?_alloc_new]
  have c1 : (w.alloc (Obj.cells #[Value.int IntKind.i64 p, Value.int IntKind.i64 v, Value.string s] 23)).cell? ⟨w.heap.size, 1, none⟩ = some (.int .i64 v) := by simp [World.cell?_alloc_new]
  have c2 : (w.alloc (Obj.cells #[Value.int IntKind.i64 p, Value.int IntKind.i64 v, Value.string s] 23)).cell? ⟨w.heap.size, 2, none⟩ = some (.string s) := by simp [World.cell?_alloc_new]
  have C0 := Lib.hid c0; clear c0
  have C1 := Lib.hid c1; clear c1
  have C2 := Lib.hid c2; clear c2
  go_region_held3 (fun w' => w'.cell? ⟨w.heap.size, 0, none⟩ = some (.int .i64 p) ∧ w'.cell? ⟨w.heap.size, 1, none⟩ = some (.int .i64 v) ∧ w'.cell? ⟨w.heap.size, 2, none⟩ = some (.string s))
    (exact ⟨hst.cell (Nat.lt_succ_self _) C0.out, hst.cell (Nat.lt_succ_self _) C1.out, hst.cell (Nat.lt_succ_self _) C2.out⟩)
    (first
    | (go_at_call 47; refine (number_any _ ?_ ?_ _ ?_).mono ?_; (first | exact hp | exact hv); (first | exact hp' | exact hv'); (exact hst.ok); rintro e w1 ⟨rfl, hb1⟩; replace hst := hst.step hb1; clear hb1)
    | (go_at_call 33; refine (with_any _ _ _ ?_).mono ?_; (first | (exact Nat.le_trans hs (by decide)) | (exact itoa_size _ hp hp') | (exact itoa_size _ hv hv') | decide); rintro e w1 ⟨rfl, hb1⟩; replace hst := hst.step hb1; clear hb1))
  go_wp2
  go_ret
  refine ⟨ret_int ?_, hst.fin⟩
  simp only [fnv, textL, fnvOn_app]

/-- All bytes of a list are in a set. -/
def inSet (cs l : List UInt8) : Bool := l.all fun c => cs.contains c
theorem dropWhile_nil {p : UInt8 → Bool} : ∀ {l : List UInt8}, l.dropWhile p = [] ↔ ∀ x ∈ l, p x = true
  | [] => by simp
  | c :: l => by
    rw [List.dropWhile_cons]
    by_cases h : p c = true
    · rw [if_pos h, dropWhile_nil]
      simp [h]
    · rw [if_neg h]
      simp [h]
theorem trim_nil (cs l : List UInt8) : Lib.trimS l cs = [] ↔ inSet cs l = true := by
  unfold Lib.trimS Lib.trimLeftS Lib.trimRightS inSet
  constructor
  · intro h
    rw [dropWhile_nil] at h
    cases hm : l.reverse.dropWhile (cs.contains ·) with
    | nil =>
      rw [dropWhile_nil] at hm
      exact List.all_eq_true.2 fun x hx => hm x (List.mem_reverse.2 hx)
    | cons y r =>
      exfalso
      have h1 := h y (by rw [hm]; simp)
      have h2 := List.head_dropWhile_not (cs.contains ·) (l := l.reverse) (by rw [hm]; simp)
      simp only [hm, List.head_cons] at h2
      rw [h1] at h2
      cases h2
  · intro h
    have hm : l.reverse.dropWhile (cs.contains ·) = [] := by
      rw [dropWhile_nil]
      exact fun x hx => List.all_eq_true.1 h x (List.mem_reverse.1 hx)
    rw [hm]; rfl
def saltSet : List UInt8 := [97, 98, 99, 100, 101, 102, 103, 104, 105, 106, 107, 108, 109, 110, 111, 112, 113, 114, 115, 116, 117, 118, 119, 120, 121, 122, 48, 49, 50, 51, 52, 53, 54, 55, 56, 57]
def hexSet : List UInt8 := [48, 49, 50, 51, 52, 53, 54, 55, 56, 57, 97, 98, 99, 100, 101, 102]
def saltB (l : List UInt8) : Bool := decide (1 ≤ l.length ∧ l.length ≤ 20) && inSet saltSet l
def hashB (l : List UInt8) : Bool := decide (l.length = 16) && inSet hexSet l
theorem trim_any (s : ByteArray) (cs : List UInt8) (hs : s.size ≤ 140737488351232) (hcs : cs.length < 1000) (hascii : ∀ b ∈ cs, b.toNat < 128) (w : World) :
    Calls Tryd.prog 63 #[.string s, .string ⟨cs.toArray⟩] w fun e w' => e = .returned (.string ⟨(Lib.trimS s.data.toList cs).toArray⟩) ∧ Below w.heap.size w w' := by
  refine Any.strings_Trim_laid Tryd.lays160 (by kernel_rfl) s ⟨cs.toArray⟩ w (by omega) ?_ ?_
  · show cs.toArray.size < _
    simp; omega
  · intro j b hb
    exact hascii b (List.mem_of_getElem? (by simpa using hb))

set_option maxHeartbeats 400000 in
theorem isSalt_any (s : ByteArray) (hs : s.size ≤ 140737488351232) (w : World) :
    Calls Tryd.prog 50 #[.string s] w fun e w' => e = .returned (.bool (saltB s.data.toList)) ∧ Below w.heap.size w w' := by
  have hsz : s.data.toList.length = s.size := by simp
  by_cases h1 : 1 ≤ (s.size : Int) ∧ (s.size : Int) ≤ 20
  · cases h2 : inSet saltSet s.data.toList with
    | true =>
      have hr : saltB s.data.toList = true := by simp only [saltB, h2, Bool.and_true, decide_eq_true_eq, hsz]; omega
      rw [hr]
      have hnil : Lib.trimS s.data.toList saltSet = [] := (trim_nil _ _).2 h2
      have H1 := Lib.hid h1
      have Hn := Lib.hid hnil
      clear h1 h2 hr hnil hsz
      go_enter Tryd.func50, Tryd.ntmps50
      go_wp2_with (first | (go_at_call 40; refine (within_yes _ _ _ _ H1.out).mono ?_; rintro e w' ⟨rfl, rfl⟩) | (go_at_call 63; refine (trim_any s saltSet hs (by decide) (by decide) _).mono ?_; rw [Hn.out]; rintro e w' ⟨rfl, hb⟩))
      go_ret
      exact ⟨rfl, hb⟩
    | false =>
      have hr : saltB s.data.toList = false := by simp only [saltB, h2, Bool.and_false]
      rw [hr]
      obtain ⟨y, r, hy⟩ : ∃ y r, Lib.trimS s.data.toList saltSet = y :: r := by
        cases hc : Lib.trimS s.data.toList saltSet with
        | nil => rw [(trim_nil _ _).1 hc] at h2; cases h2
        | cons y r => exact ⟨y, r, rfl⟩
      have H1 := Lib.hid h1
      have Hn := Lib.hid hy
      clear h1 h2 hr hy hsz
      go_enter Tryd.func50, Tryd.ntmps50
      go_wp2_with (first | (go_at_call 40; refine (within_yes _ _ _ _ H1.out).mono ?_; rintro e w' ⟨rfl, rfl⟩) | (go_at_call 63; refine (trim_any s saltSet hs (by decide) (by decide) _).mono ?_; rw [Hn.out]; rintro e w' ⟨rfl, hb⟩))
      go_ret
      exact ⟨rfl, hb⟩
  · have hr : saltB s.data.toList = false := by
      have : ¬ (1 ≤ s.data.toList.length ∧ s.data.toList.length ≤ 20) := by rw [hsz]; omega
      simp only [saltB, decide_eq_false this, Bool.false_and]
    rw [hr]
    have H1 := Lib.hid h1
    clear h1 hr hsz
    go_enter Tryd.func50, Tryd.ntmps50
    go_wp2_with (first | (go_at_call 40; refine (within_no _ _ _ _ H1.out).mono ?_; rintro e w' ⟨rfl, rfl⟩))
    go_ret
    exact ⟨rfl, Below.refl _ _⟩

set_option maxHeartbeats 400000 in
theorem isHash_any (s : ByteArray) (hs : s.size ≤ 140737488351232) (w : World) :
    Calls Tryd.prog 49 #[.string s] w fun e w' => e = .returned (.bool (hashB s.data.toList)) ∧ Below w.heap.size w w' := by
  have hsz : s.data.toList.length = s.size := by simp
  by_cases h1 : s.size = 16
  · have hb16 : ((s.size : Int) == 16) = true := by simp [h1]
    cases h2 : inSet hexSet s.data.toList with
    | true =>
      have hr : hashB s.data.toList = true := by simp only [hashB, h2, Bool.and_true, decide_eq_true_eq, hsz]; omega
      rw [hr]
      have hnil : Lib.trimS s.data.toList hexSet = [] := (trim_nil _ _).2 h2
      have Hn := Lib.hid hnil
      clear h1 h2 hr hnil hsz
      go_enter Tryd.func49, Tryd.ntmps49
      go_wp2_with (first | (go_at_call 63; refine (trim_any s hexSet hs (by decide) (by decide) _).mono ?_; rw [Hn.out]; rintro e w' ⟨rfl, hb⟩))
      go_ret
      exact ⟨rfl, hb⟩
    | false =>
      have hr : hashB s.data.toList = false := by simp only [hashB, h2, Bool.and_false]
      rw [hr]
      obtain ⟨y, r, hy⟩ : ∃ y r, Lib.trimS s.data.toList hexSet = y :: r := by
        cases hc : Lib.trimS s.data.toList hexSet with
        | nil => rw [(trim_nil _ _).1 hc] at h2; cases h2
        | cons y r => exact ⟨y, r, rfl⟩
      have Hn := Lib.hid hy
      clear h1 h2 hr hy hsz
      go_enter Tryd.func49, Tryd.ntmps49
      go_wp2_with (first | (go_at_call 63; refine (trim_any s hexSet hs (by decide) (by decide) _).mono ?_; rw [Hn.out]; rintro e w' ⟨rfl, hb⟩))
      go_ret
      exact ⟨rfl, hb⟩
  · have hb16 : ((s.size : Int) == 16) = false := by simp; omega
    have hr : hashB s.data.toList = false := by
      have : ¬ (s.data.toList.length = 16) := by rw [hsz]; omega
      simp only [hashB, decide_eq_false this, Bool.false_and]
    rw [hr]
    clear h1 hr hsz
    go_enter Tryd.func49, Tryd.ntmps49
    go_wp2
    go_ret
    exact ⟨rfl, Below.refl _ _⟩

/-- Is a box valid? -/
def boxB (p v : Int) (s : List UInt8) : Bool := decide (1 ≤ p ∧ p ≤ 30) && decide (0 ≤ v ∧ v ≤ 999999999) && saltB s
set_option maxHeartbeats 400000 in
theorem isBox_any (p v : Int) (s : ByteArray) (hs : s.size ≤ 140737488351232) (w : World) :
    Calls Tryd.prog 35 #[boxV p v s] w fun e w' => e = .returned (.bool (boxB p v s.data.toList)) ∧ Below w.heap.size w w' := by
  unfold boxV
  have hb0 : Below w.heap.size w (w.alloc (Obj.cells #[Value.int IntKind.i64 p, Value.int IntKind.i64 v, Value.string s] 23)) := (Below.refl _ w).alloc (Nat.le_refl _) _
  by_cases h1 : 1 ≤ p ∧ p ≤ 30
  · by_cases h2 : 0 ≤ v ∧ v ≤ 999999999
    · have hr : boxB p v s.data.toList = saltB s.data.toList := by simp [boxB, h1, h2]
      rw [hr]
      have H1 := Lib.hid h1
      have H2 := Lib.hid h2
      clear h1 h2 hr
      go_enter Tryd.func35, Tryd.ntmps35
      go_wp2_with (first | (go_at_call 40; refine (within_yes _ _ _ _ (by first | exact H1.out | exact H2.out)).mono ?_; rintro e w' ⟨rfl, rfl⟩) | (go_at_call 50; refine (isSalt_any s hs _).mono ?_; rintro e w' ⟨rfl, hb⟩))
      go_ret
      exact ⟨rfl, hb0.trans (hb.mono (by simp))⟩
    · have hr : boxB p v s.data.toList = false := by simp only [boxB, decide_eq_false h2, Bool.and_false, Bool.false_and]
      rw [hr]
      have H1 := Lib.hid h1
      have H2 := Lib.hid h2
      clear h1 h2 hr
      go_enter Tryd.func35, Tryd.ntmps35
      go_wp2_with fail
      refine (within_yes p 1 30 _ H1.out).mono ?_
      rintro e w' ⟨rfl, rfl⟩
      go_wp2_with fail
      refine (within_no v 0 999999999 _ H2.out).mono ?_
      rintro e w' ⟨rfl, rfl⟩
      go_wp2_with fail
      go_ret
      exact ⟨rfl, hb0⟩
  · have hr : boxB p v s.data.toList = false := by simp only [boxB, decide_eq_false h1, Bool.false_and]
    rw [hr]
    have H1 := Lib.hid h1
    clear h1 hr
    go_enter Tryd.func35, Tryd.ntmps35
    go_wp2_with (first | (go_at_call 40; refine (within_no _ _ _ _ H1.out).mono ?_; rintro e w' ⟨rfl, rfl⟩))
    go_ret
    exact ⟨rfl, hb0⟩
end Go.Proofs.YtcmpindjgfojaaaDoor
