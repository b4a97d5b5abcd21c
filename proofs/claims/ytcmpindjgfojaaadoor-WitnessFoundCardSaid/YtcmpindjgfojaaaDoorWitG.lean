/- Walks: a drawing's Open. -/
import Derived.Test.YtcmpindjgfojaaaDoorWitF
namespace Go.Proofs.YtcmpindjgfojaaaDoor
open Go.RowKit

variable {B : Nat} {w : World} {d pb lb cap : Nat} {D : Drw}
/-- What Open does to a drawing. -/
def openD (D : Drw) (p v : Int) (salt : List UInt8) : (Bool × Int) × Drw :=
  if ¬ (1 ≤ p ∧ p ≤ (D.pers.length : Int)) then ((false, 7), D) else
  if ¬ (0 ≤ v ∧ v ≤ D.below - 1) then ((false, 3), D) else
  if saltB salt = false then ((false, 4), D) else
  if runB D = false then ((false, 9), D) else
  match D.pers[p.toNat - 1]? with
  | none => ((false, 7), D)
  | some q => if 0 < q.opn then ((false, 6), D) else
    ((hashL (textL p v salt) == q.hash, 0), { D with lines := D.lines ++ [lineL [[111, 112, 101, 110], Lib.itoa p, Lib.itoa v, salt]], pers := D.pers.set (p.toNat - 1) { q with value := v, opn := D.lines.length + 1, right := hashL (textL p v salt) == q.hash }, nopen := D.nopen + 1 })
def OpenP (B : Nat) (w : World) (d pb lb : Nat) (r : (Bool × Int) × Drw) (e : Ending) (w' : World) : Prop :=
  e = .returned (.tuple #[.bool r.1.1, .int .i64 r.1.2]) ∧ ∃ lb' cap', IsD B w' d pb lb' cap' r.2 ∧ ModL [d, pb, lb] w w' ∧ (lb' = lb ∨ w.heap.size ≤ lb')

theorem own_lt {w : World} {B e size n g cap : Nat} {xs : List Value} (h : w.ownsRow B e size (.slice (some ⟨g, 0, none⟩) n cap) n xs) : g < w.heap.size := by
  obtain ⟨_, h⟩ := h
  rcases h with h | ⟨g', cap', cur, hv, hg, hh, r⟩
  · exact absurd h.1 (by simp)
  · simp only [Value.slice.injEq, Option.some.injEq, Addr.mk.injEq, and_true, true_and] at hv
    obtain ⟨rfl, rfl⟩ := hv
    exact lt_of_heap hh
theorem open_len (p v : Int) (l : List UInt8) (h0 : 0 ≤ p) (h1 : p ≤ 9223372036854775807) (h2 : 0 ≤ v) (h3 : v ≤ 9223372036854775807) (h : l.length ≤ 1000) : (Lib.join [[111, 112, 101, 110], Lib.itoa p, Lib.itoa v, l] [32]).length ≤ 1000000 := by
  have := joinL_len [[111, 112, 101, 110], Lib.itoa p, Lib.itoa v, l]
  have h4 := Lib.itoa_length_le p (by omega) h1
  have h5 := Lib.itoa_length_le v (by omega) h3
  simp at this
  omega
theorem open_nil (p v : Int) (s : ByteArray) (w : World) :
    Calls Tryd.prog 26 #[.pointer none, boxV p v s] w fun e w' => e = .returned (.tuple #[.bool false, .int .i64 1]) ∧ Below w.heap.size w w' := by
  unfold boxV
  go_enter Tryd.func26, Tryd.ntmps26
  go_wp2
  go_ret2
  exact ⟨rfl, (Below.refl _ _).alloc (Nat.le_refl _) _⟩


set_option maxHeartbeats 2000000 in
set_option maxRecDepth 100000 in
theorem open_7 (p v : Int) (s : ByteArray) (h : IsD B w d pb lb cap D) (hw : Ok w) (hl : D.pers.length ≤ 30) (hs : s.size ≤ 140737488351232) (hb1 : 1 ≤ D.below) (hb2 : D.below ≤ 1000000000) (h1 : ¬ (1 ≤ p ∧ p ≤ (D.pers.length : Int))) :
    Calls Tryd.prog 26 #[.pointer (some ⟨d, 0, none⟩), boxV p v s] w (OpenP B w d pb lb ((false, 7), D)) := by
  have hst0 := Stay.of hw (Obj.cells #[Value.int IntKind.i64 p, Value.int IntKind.i64 v, Value.string s] 23)
  have b0 : (w.alloc (Obj.cells #[Value.int IntKind.i64 p, Value.int IntKind.i64 v, Value.string s] 23)).cell? ⟨w.heap.size, 0, none⟩ = some (.int .i64 p) := by simp [World.cell?_alloc_new]
  have b1 : (w.alloc (Obj.cells #[Value.int IntKind.i64 p, Value.int IntKind.i64 v, Value.string s] 23)).cell? ⟨w.heap.size, 1, none⟩ = some (.int .i64 v) := by simp [World.cell?_alloc_new]
  have b2 : (w.alloc (Obj.cells #[Value.int IntKind.i64 p, Value.int IntKind.i64 v, Value.string s] 23)).cell? ⟨w.heap.size, 2, none⟩ = some (.string s) := by simp [World.cell?_alloc_new]
  have hz : (w.alloc (Obj.cells #[Value.int IntKind.i64 p, Value.int IntKind.i64 v, Value.string s] 23)).heap.size = w.heap.size + 1 := by simp
  have hwb : Below w.heap.size w (w.alloc (Obj.cells #[Value.int IntKind.i64 p, Value.int IntKind.i64 v, Value.string s] 23)) := (Below.refl _ w).alloc (Nat.le_refl _) _
  have hD0 := h.below hwb
  have Z := Lib.hid hz
  have B0 := Lib.hid b0
  have B1 := Lib.hid b1
  have B2 := Lib.hid b2
  clear hz b0 b1 b2
  unfold boxV
  go_enter Tryd.func26, Tryd.ntmps26
  go_wp2_with fail
  refine (find_no p hD0 hl h1).mono ?_
  rintro e w' ⟨rfl, rfl⟩
  clear h1
  go_wp2_with fail
  go_ret2
  exact ⟨rfl, lb, cap, hD0, ModL.of_below hwb, .inl rfl⟩

set_option maxHeartbeats 2000000 in
set_option maxRecDepth 100000 in
theorem open_3 (p v : Int) (s : ByteArray) (h : IsD B w d pb lb cap D) (hw : Ok w) (hl : D.pers.length ≤ 30) (hs : s.size ≤ 140737488351232) (hb1 : 1 ≤ D.below) (hb2 : D.below ≤ 1000000000) (h1 : 1 ≤ p ∧ p ≤ (D.pers.length : Int)) (h2 : ¬ (0 ≤ v ∧ v ≤ D.below - 1)) :
    Calls Tryd.prog 26 #[.pointer (some ⟨d, 0, none⟩), boxV p v s] w (OpenP B w d pb lb ((false, 3), D)) := by
  have hst0 := Stay.of hw (Obj.cells #[Value.int IntKind.i64 p, Value.int IntKind.i64 v, Value.string s] 23)
  have b0 : (w.alloc (Obj.cells #[Value.int IntKind.i64 p, Value.int IntKind.i64 v, Value.string s] 23)).cell? ⟨w.heap.size, 0, none⟩ = some (.int .i64 p) := by simp [World.cell?_alloc_new]
  have b1 : (w.alloc (Obj.cells #[Value.int IntKind.i64 p, Value.int IntKind.i64 v, Value.string s] 23)).cell? ⟨w.heap.size, 1, none⟩ = some (.int .i64 v) := by simp [World.cell?_alloc_new]
  have b2 : (w.alloc (Obj.cells #[Value.int IntKind.i64 p, Value.int IntKind.i64 v, Value.string s] 23)).cell? ⟨w.heap.size, 2, none⟩ = some (.string s) := by simp [World.cell?_alloc_new]
  have hz : (w.alloc (Obj.cells #[Value.int IntKind.i64 p, Value.int IntKind.i64 v, Value.string s] 23)).heap.size = w.heap.size + 1 := by simp
  have hwb : Below w.heap.size w (w.alloc (Obj.cells #[Value.int IntKind.i64 p, Value.int IntKind.i64 v, Value.string s] 23)) := (Below.refl _ w).alloc (Nat.le_refl _) _
  have hD0 := h.below hwb
  have Z := Lib.hid hz
  have B0 := Lib.hid b0
  have B1 := Lib.hid b1
  have B2 := Lib.hid b2
  clear hz b0 b1 b2
  unfold boxV
  go_enter Tryd.func26, Tryd.ntmps26
  go_wp2_with fail
  refine (find_yes p hD0 hl h1.1 h1.2).mono ?_
  rintro e w' ⟨rfl, rfl⟩
  have H1 := Lib.hid h1
  clear h1
  go_wp2_with fail
  have c1 := hD0.c1
  have b1 := B1.out
  have H2 := Lib.hid h2
  clear h2
  go_quiet ((go_at_call 40; exact Calls.quiet_of_same (within_no' _ _ _ _ H2.out)))
  go_wp2_with fail
  go_ret2
  exact ⟨rfl, lb, cap, hD0.below (below_drewN (Below.refl _ _) _), ModL.of_below (below_drewN hwb _), .inl rfl⟩

set_option maxHeartbeats 2000000 in
set_option maxRecDepth 100000 in
theorem open_4 (p v : Int) (s : ByteArray) (h : IsD B w d pb lb cap D) (hw : Ok w) (hl : D.pers.length ≤ 30) (hs : s.size ≤ 140737488351232) (hb1 : 1 ≤ D.below) (hb2 : D.below ≤ 1000000000) (h1 : 1 ≤ p ∧ p ≤ (D.pers.length : Int)) (h2 : 0 ≤ v ∧ v ≤ D.below - 1) (h3 : saltB s.data.toList = false) :
    Calls Tryd.prog 26 #[.pointer (some ⟨d, 0, none⟩), boxV p v s] w (OpenP B w d pb lb ((false, 4), D)) := by
  have hst0 := Stay.of hw (Obj.cells #[Value.int IntKind.i64 p, Value.int IntKind.i64 v, Value.string s] 23)
  have b0 : (w.alloc (Obj.cells #[Value.int IntKind.i64 p, Value.int IntKind.i64 v, Value.string s] 23)).cell? ⟨w.heap.size, 0, none⟩ = some (.int .i64 p) := by simp [World.cell?_alloc_new]
  have b1 : (w.alloc (Obj.cells #[Value.int IntKind.i64 p, Value.int IntKind.i64 v, Value.string s] 23)).cell? ⟨w.heap.size, 1, none⟩ = some (.int .i64 v) := by simp [World.cell?_alloc_new]
  have b2 : (w.alloc (Obj.cells #[Value.int IntKind.i64 p, Value.int IntKind.i64 v, Value.string s] 23)).cell? ⟨w.heap.size, 2, none⟩ = some (.string s) := by simp [World.cell?_alloc_new]
  have hz : (w.alloc (Obj.cells #[Value.int IntKind.i64 p, Value.int IntKind.i64 v, Value.string s] 23)).heap.size = w.heap.size + 1 := by simp
  have hwb : Below w.heap.size w (w.alloc (Obj.cells #[Value.int IntKind.i64 p, Value.int IntKind.i64 v, Value.string s] 23)) := (Below.refl _ w).alloc (Nat.le_refl _) _
  have hD0 := h.below hwb
  have Z := Lib.hid hz
  have B0 := Lib.hid b0
  have B1 := Lib.hid b1
  have B2 := Lib.hid b2
  clear hz b0 b1 b2
  unfold boxV
  go_enter Tryd.func26, Tryd.ntmps26
  go_wp2_with fail
  refine (find_yes p hD0 hl h1.1 h1.2).mono ?_
  rintro e w' ⟨rfl, rfl⟩
  have H1 := Lib.hid h1
  clear h1
  go_wp2_with fail
  have c1 := hD0.c1
  have b1 := B1.out
  have H2 := Lib.hid h2
  clear h2
  go_quiet ((go_at_call 40; exact Calls.quiet_of_same (within_yes' _ _ _ _ H2.out)))
  clear c1 b1
  have hst := hst0.step (below_drewN (Below.refl _ _) nq)
  have b2 := hst.cell (Nat.lt_succ_self _) B2.out
  go_wp2_with fail
  clear b2
  refine (isSalt_any s hs _).mono ?_
  rw [h3]
  rintro e w1 ⟨rfl, hb1'⟩
  replace hst := hst.step hb1'
  clear hb1' h3
  go_wp2_with fail
  go_ret2
  have hbf := hst.fin
  exact ⟨rfl, lb, cap, h.below hbf, ModL.of_below hbf, .inl rfl⟩

set_option maxHeartbeats 2000000 in
set_option maxRecDepth 100000 in
theorem open_9 (p v : Int) (s : ByteArray) (h : IsD B w d pb lb cap D) (hw : Ok w) (hl : D.pers.length ≤ 30) (hs : s.size ≤ 140737488351232) (hb1 : 1 ≤ D.below) (hb2 : D.below ≤ 1000000000) (h1 : 1 ≤ p ∧ p ≤ (D.pers.length : Int)) (h2 : 0 ≤ v ∧ v ≤ D.below - 1) (h3 : saltB s.data.toList = true) (h4 : runB D = false) :
    Calls Tryd.prog 26 #[.pointer (some ⟨d, 0, none⟩), boxV p v s] w (OpenP B w d pb lb ((false, 9), D)) := by
  have hst0 := Stay.of hw (Obj.cells #[Value.int IntKind.i64 p, Value.int IntKind.i64 v, Value.string s] 23)
  have b0 : (w.alloc (Obj.cells #[Value.int IntKind.i64 p, Value.int IntKind.i64 v, Value.string s] 23)).cell? ⟨w.heap.size, 0, none⟩ = some (.int .i64 p) := by simp [World.cell?_alloc_new]
  have b1 : (w.alloc (Obj.cells #[Value.int IntKind.i64 p, Value.int IntKind.i64 v, Value.string s] 23)).cell? ⟨w.heap.size, 1, none⟩ = some (.int .i64 v) := by simp [World.cell?_alloc_new]
  have b2 : (w.alloc (Obj.cells #[Value.int IntKind.i64 p, Value.int IntKind.i64 v, Value.string s] 23)).cell? ⟨w.heap.size, 2, none⟩ = some (.string s) := by simp [World.cell?_alloc_new]
  have hz : (w.alloc (Obj.cells #[Value.int IntKind.i64 p, Value.int IntKind.i64 v, Value.string s] 23)).heap.size = w.heap.size + 1 := by simp
  have hwb : Below w.heap.size w (w.alloc (Obj.cells #[Value.int IntKind.i64 p, Value.int IntKind.i64 v, Value.string s] 23)) := (Below.refl _ w).alloc (Nat.le_refl _) _
  have hD0 := h.below hwb
  have Z := Lib.hid hz
  have B0 := Lib.hid b0
  have B1 := Lib.hid b1
  have B2 := Lib.hid b2
  clear hz b0 b1 b2
  unfold boxV
  go_enter Tryd.func26, Tryd.ntmps26
  go_wp2_with fail
  refine (find_yes p hD0 hl h1.1 h1.2).mono ?_
  rintro e w' ⟨rfl, rfl⟩
  have H1 := Lib.hid h1
  clear h1
  go_wp2_with fail
  have c1 := hD0.c1
  have b1 := B1.out
  have H2 := Lib.hid h2
  clear h2
  go_quiet ((go_at_call 40; exact Calls.quiet_of_same (within_yes' _ _ _ _ H2.out)))
  clear c1 b1
  have hst := hst0.step (below_drewN (Below.refl _ _) nq)
  have b2 := hst.cell (Nat.lt_succ_self _) B2.out
  go_wp2_with fail
  clear b2
  refine (isSalt_any s hs _).mono ?_
  rw [h3]
  rintro e w1 ⟨rfl, hb1'⟩
  replace hst := hst.step hb1'
  clear hb1' h3
  go_wp2_with fail
  have hb1f := hst.fin
  have hD1 := h.below hb1f
  refine (running_any hD1 hl).mono ?_
  rw [h4]
  rintro e w2 ⟨rfl, nq2, rfl⟩
  replace hst := hst.step (below_drewN (Below.refl _ _) nq2)
  clear hb1f hD1 h4
  go_wp2_with fail
  go_ret2
  have hbf := hst.fin
  exact ⟨rfl, lb, cap, h.below hbf, ModL.of_below hbf, .inl rfl⟩

set_option maxHeartbeats 2000000 in
set_option maxRecDepth 100000 in
theorem open_6 (p v : Int) (s : ByteArray) (h : IsD B w d pb lb cap D) (hw : Ok w) (hl : D.pers.length ≤ 30) (hs : s.size ≤ 140737488351232) (hb1 : 1 ≤ D.below) (hb2 : D.below ≤ 1000000000) (h1 : 1 ≤ p ∧ p ≤ (D.pers.length : Int)) (h2 : 0 ≤ v ∧ v ≤ D.below - 1) (h3 : saltB s.data.toList = true) (h4 : runB D = true) (q : Per) (hq : D.pers[p.toNat - 1]? = some q) (h5 : 0 < q.opn) :
    Calls Tryd.prog 26 #[.pointer (some ⟨d, 0, none⟩), boxV p v s] w (OpenP B w d pb lb ((false, 6), D)) := by
  have hst0 := Stay.of hw (Obj.cells #[Value.int IntKind.i64 p, Value.int IntKind.i64 v, Value.string s] 23)
  have b0 : (w.alloc (Obj.cells #[Value.int IntKind.i64 p, Value.int IntKind.i64 v, Value.string s] 23)).cell? ⟨w.heap.size, 0, none⟩ = some (.int .i64 p) := by simp [World.cell?_alloc_new]
  have b1 : (w.alloc (Obj.cells #[Value.int IntKind.i64 p, Value.int IntKind.i64 v, Value.string s] 23)).cell? ⟨w.heap.size, 1, none⟩ = some (.int .i64 v) := by simp [World.cell?_alloc_new]
  have b2 : (w.alloc (Obj.cells #[Value.int IntKind.i64 p, Value.int IntKind.i64 v, Value.string s] 23)).cell? ⟨w.heap.size, 2, none⟩ = some (.string s) := by simp [World.cell?_alloc_new]
  have hz : (w.alloc (Obj.cells #[Value.int IntKind.i64 p, Value.int IntKind.i64 v, Value.string s] 23)).heap.size = w.heap.size + 1 := by simp
  have hwb : Below w.heap.size w (w.alloc (Obj.cells #[Value.int IntKind.i64 p, Value.int IntKind.i64 v, Value.string s] 23)) := (Below.refl _ w).alloc (Nat.le_refl _) _
  have hD0 := h.below hwb
  have Z := Lib.hid hz
  have B0 := Lib.hid b0
  have B1 := Lib.hid b1
  have B2 := Lib.hid b2
  clear hz b0 b1 b2
  unfold boxV
  go_enter Tryd.func26, Tryd.ntmps26
  go_wp2_with fail
  refine (find_yes p hD0 hl h1.1 h1.2).mono ?_
  rintro e w' ⟨rfl, rfl⟩
  have H1 := Lib.hid h1
  clear h1
  go_wp2_with fail
  have c1 := hD0.c1
  have b1 := B1.out
  have H2 := Lib.hid h2
  clear h2
  go_quiet ((go_at_call 40; exact Calls.quiet_of_same (within_yes' _ _ _ _ H2.out)))
  clear c1 b1
  have hst := hst0.step (below_drewN (Below.refl _ _) nq)
  have b2 := hst.cell (Nat.lt_succ_self _) B2.out
  go_wp2_with fail
  clear b2
  refine (isSalt_any s hs _).mono ?_
  rw [h3]
  rintro e w1 ⟨rfl, hb1'⟩
  replace hst := hst.step hb1'
  clear hb1' h3
  go_wp2_with fail
  have hb1f := hst.fin
  have hD1 := h.below hb1f
  refine (running_any hD1 hl).mono ?_
  rw [h4]
  rintro e w2 ⟨rfl, nq2, rfl⟩
  replace hst := hst.step (below_drewN (Below.refl _ _) nq2)
  clear hb1f hD1 h4
  have hD1 := h.below hst.fin
  have q3 := hD1.p3 hq
  have h50 : (0 : Int) < (q.opn : Int) := by omega
  clear h5
  go_wp2_with fail
  go_ret2
  have hbf := hst.fin
  exact ⟨rfl, lb, cap, h.below hbf, ModL.of_below hbf, .inl rfl⟩

set_option maxHeartbeats 2000000 in
set_option maxRecDepth 100000 in
theorem open_0 (p v : Int) (s : ByteArray) (h : IsD B w d pb lb cap D) (hw : Ok w) (hl : D.pers.length ≤ 30) (hs : s.size ≤ 140737488351232) (hb1 : 1 ≤ D.below) (hb2 : D.below ≤ 1000000000) (h1 : 1 ≤ p ∧ p ≤ (D.pers.length : Int)) (h2 : 0 ≤ v ∧ v ≤ D.below - 1) (h3 : saltB s.data.toList = true) (h4 : runB D = true) (q : Per) (hq : D.pers[p.toNat - 1]? = some q) (hs0 : s.size ≤ 1000) (h5 : q.opn = 0) (hn : D.lines.length ≤ 1000000) (hno : D.nopen ≤ 1000000) :
    Calls Tryd.prog 26 #[.pointer (some ⟨d, 0, none⟩), boxV p v s] w (OpenP B w d pb lb ((hashL (textL p v s.data.toList) == q.hash, 0), { D with lines := D.lines ++ [lineL [[111, 112, 101, 110], Lib.itoa p, Lib.itoa v, s.data.toList]], pers := D.pers.set (p.toNat - 1) { q with value := v, opn := D.lines.length + 1, right := hashL (textL p v s.data.toList) == q.hash }, nopen := D.nopen + 1 })) := by
  have hst0 := Stay.of hw (Obj.cells #[Value.int IntKind.i64 p, Value.int IntKind.i64 v, Value.string s] 23)
  have b0 : (w.alloc (Obj.cells #[Value.int IntKind.i64 p, Value.int IntKind.i64 v, Value.string s] 23)).cell? ⟨w.heap.size, 0, none⟩ = some (.int .i64 p) := by simp [World.cell?_alloc_new]
  have b1 : (w.alloc (Obj.cells #[Value.int IntKind.i64 p, Value.int IntKind.i64 v, Value.string s] 23)).cell? ⟨w.heap.size, 1, none⟩ = some (.int .i64 v) := by simp [World.cell?_alloc_new]
  have b2 : (w.alloc (Obj.cells #[Value.int IntKind.i64 p, Value.int IntKind.i64 v, Value.string s] 23)).cell? ⟨w.heap.size, 2, none⟩ = some (.string s) := by simp [World.cell?_alloc_new]
  have hz : (w.alloc (Obj.cells #[Value.int IntKind.i64 p, Value.int IntKind.i64 v, Value.string s] 23)).heap.size = w.heap.size + 1 := by simp
  have hwb : Below w.heap.size w (w.alloc (Obj.cells #[Value.int IntKind.i64 p, Value.int IntKind.i64 v, Value.string s] 23)) := (Below.refl _ w).alloc (Nat.le_refl _) _
  have hD0 := h.below hwb
  have Z := Lib.hid hz
  have B0 := Lib.hid b0
  have B1 := Lib.hid b1
  have B2 := Lib.hid b2
  clear hz b0 b1 b2
  unfold boxV
  go_enter Tryd.func26, Tryd.ntmps26
  go_wp2_with fail
  refine (find_yes p hD0 hl h1.1 h1.2).mono ?_
  rintro e w' ⟨rfl, rfl⟩
  have H1 := Lib.hid h1
  clear h1
  go_wp2_with fail
  have c1 := hD0.c1
  have b1 := B1.out
  have H2 := Lib.hid h2
  clear h2
  go_quiet ((go_at_call 40; exact Calls.quiet_of_same (within_yes' _ _ _ _ H2.out)))
  clear c1 b1
  have hst := hst0.step (below_drewN (Below.refl _ _) nq)
  have b2 := hst.cell (Nat.lt_succ_self _) B2.out
  go_wp2_with fail
  clear b2
  refine (isSalt_any s hs _).mono ?_
  rw [h3]
  rintro e w1 ⟨rfl, hb1'⟩
  replace hst := hst.step hb1'
  clear hb1' h3
  go_wp2_with fail
  have hb1f := hst.fin
  have hD1 := h.below hb1f
  refine (running_any hD1 hl).mono ?_
  rw [h4]
  rintro e w2 ⟨rfl, nq2, rfl⟩
  replace hst := hst.step (below_drewN (Below.refl _ _) nq2)
  clear hb1f hD1 h4
  have hD1 := h.below hst.fin
  have q3 := hD1.p3 hq
  have h50 : (q.opn : Int) = 0 := by omega
  rw [h50] at q3
  have HQ := Lib.hid hq
  have H5 := Lib.hid h5
  clear h50 h5 hq
  go_wp2_with fail
  clear q3
  have hp0 : 0 ≤ p := by have := H1.out; omega
  have hp1 : p ≤ 9223372036854775807 := by have := H1.out; omega
  have hv0 : 0 ≤ v := H2.out.1
  have hv1 : v ≤ 9223372036854775807 := by have := H2.out; omega
  have hpw : pb < w.heap.size := lt_of_heap h.pers
  have hpx : pb ≠ w.heap.size := by omega
  have hdx : d ≠ w.heap.size := by have := lt_of_heap h.self; omega
  replace hst := hst.step (Below.refl _ _).drew
  go_region_held3 (fun w' => w'.cell? ⟨w.heap.size, 0, none⟩ = some (.int .i64 p) ∧ w'.cell? ⟨w.heap.size, 1, none⟩ = some (.int .i64 v) ∧ w'.cell? ⟨w.heap.size, 2, none⟩ = some (.string s) ∧ w'.cell? ⟨pb, (p.toNat - 1) * 5, none⟩ = some (.string ⟨q.hash.toArray⟩))
    (first
    | exact ⟨hst.cell (Nat.lt_succ_self _) B0.out, hst.cell (Nat.lt_succ_self _) B1.out, hst.cell (Nat.lt_succ_self _) B2.out, (h.below hst.fin).p0 HQ.out⟩
    | exact ⟨(cell_far (.inl hpx) _).trans (hst.cell (Nat.lt_succ_self _) B0.out), (cell_far (.inl hpx) _).trans (hst.cell (Nat.lt_succ_self _) B1.out), (cell_far (.inl hpx) _).trans (hst.cell (Nat.lt_succ_self _) B2.out), (cell_far (.inr (by omega)) _).trans ((h.below hst.fin).p0 HQ.out)⟩
    | exact ⟨(cell_far (.inl hpx) _).trans ((cell_far (.inl hpx) _).trans (hst.cell (Nat.lt_succ_self _) B0.out)), (cell_far (.inl hpx) _).trans ((cell_far (.inl hpx) _).trans (hst.cell (Nat.lt_succ_self _) B1.out)), (cell_far (.inl hpx) _).trans ((cell_far (.inl hpx) _).trans (hst.cell (Nat.lt_succ_self _) B2.out)), (cell_far (.inr (by omega)) _).trans ((cell_far (.inr (by omega)) _).trans ((h.below hst.fin).p0 HQ.out))⟩)
    (first
    | (go_at_call 36; refine (seal_any p v s hp0 hp1 hv0 hv1 hs0 _ ?_).mono ?_; (exact hst.ok); rintro e w3 ⟨rfl, hb3⟩; replace hst := hst.step hb3; clear hb3)
    | (go_at_call 34; refine (string_of _ (fnv_bd _).1 (fnv_bd _).2 _ ?_).mono ?_; (exact hst.ok); rintro e w4 ⟨rfl, hb4⟩; replace hst := hst.step hb4; clear hb4; have q1 := (h.below hst.fin).p1 HQ.out; have q4 := (h.below hst.fin).p4 HQ.out; have f1 := (h.below hst.fin).fp ((p.toNat - 1) * 5 + 1); have f4 := (h.below hst.fin).fp ((p.toNat - 1) * 5 + 4)))
  go_wp2_with fail
  have hz := Z.out
  have hbox : w.heap.size < w4.heap.size := by have := hst.2.1; omega
  have hlbw : lb < w.heap.size := own_lt h.lines
  obtain ⟨W5, hW5⟩ : ∃ W5, W5 = (w4.setCell ⟨pb, (p.toNat - 1) * 5 + 1, none⟩ (Value.int IntKind.i64 v)).setCell ⟨pb, (p.toNat - 1) * 5 + 4, none⟩ (Value.bool (hex16 (fnv (textL p v s.data.toList)).toNat == q.hash)) := ⟨_, rfl⟩
  rw [← hW5]
  have hkl : p.toNat - 1 < D.pers.length := (List.getElem?_eq_some_iff.1 HQ.out).1
  have HQ5 : Hid ((D.pers.set (p.toNat - 1) { q with value := v, right := hashL (textL p v s.data.toList) == q.hash })[p.toNat - 1]? = some { q with value := v, right := hashL (textL p v s.data.toList) == q.hash }) := List.getElem?_set_self hkl
  have hD5 : IsD B W5 d pb lb cap { D with pers := D.pers.set (p.toNat - 1) { q with value := v, right := hashL (textL p v s.data.toList) == q.hash } } := by
    rw [hW5]
    have e1 := (h.below hst.fin).setP (k := p.toNat - 1) (i := 1) (q := { q with value := v }) (v := .int .i64 v) HQ.out rfl (by decide) rfl
    have e2 := e1.setP (k := p.toNat - 1) (i := 4) (p := { q with value := v }) (q := { q with value := v, right := hashL (textL p v s.data.toList) == q.hash }) (v := .bool (hex16 (fnv (textL p v s.data.toList)).toNat == q.hash)) (List.getElem?_set_self hkl) rfl (by decide) rfl
    have e3 : (D.pers.set (p.toNat - 1) { q with value := v }).set (p.toNat - 1) { q with value := v, right := hashL (textL p v s.data.toList) == q.hash } = D.pers.set (p.toNat - 1) { q with value := v, right := hashL (textL p v s.data.toList) == q.hash } := List.set_set ..
    rw [e3] at e2
    exact e2
  have hM5 : ModL [pb] w W5 := by
    rw [hW5]
    exact ((ModL.of_below hst.fin).setCell (p := ⟨pb, _, none⟩) (by simp) _).setCell (p := ⟨pb, _, none⟩) (by simp) _
  have hok5 : Ok W5 := hM5.ok hw (by have := h.bp; have := h.b8; simp; omega)
  have a0 : W5.cell? ⟨w.heap.size, 0, none⟩ = some (.int .i64 p) := by rw [hW5]; exact (cell_far (.inl hpx) _).trans ((cell_far (.inl hpx) _).trans (hst.cell (Nat.lt_succ_self _) B0.out))
  have a1 : W5.cell? ⟨w.heap.size, 1, none⟩ = some (.int .i64 v) := by rw [hW5]; exact (cell_far (.inl hpx) _).trans ((cell_far (.inl hpx) _).trans (hst.cell (Nat.lt_succ_self _) B1.out))
  have a2 : W5.cell? ⟨w.heap.size, 2, none⟩ = some (.string s) := by rw [hW5]; exact (cell_far (.inl hpx) _).trans ((cell_far (.inl hpx) _).trans (hst.cell (Nat.lt_succ_self _) B2.out))
  have hbox5 : w.heap.size < W5.heap.size := by rw [hW5]; simpa [World.setCell] using hbox
  clear hst hbox hW5 q1 q4 f1 f4
  have A0 := Lib.hid a0
  have A1 := Lib.hid a1
  have A2 := Lib.hid a2
  clear a0 a1 a2 hz
  have hst : Stay W5.heap.size W5 W5.drew := ⟨(Below.refl _ _).drew, Nat.le_refl _, hok5.below (Below.refl _ _).drew⟩
  go_region_held3 (fun w' => w'.cell? ⟨w.heap.size, 0, none⟩ = some (.int .i64 p) ∧ w'.cell? ⟨w.heap.size, 1, none⟩ = some (.int .i64 v) ∧ w'.cell? ⟨w.heap.size, 2, none⟩ = some (.string s))
    (first
    | exact ⟨hst.cell hbox5 A0.out, hst.cell hbox5 A1.out, hst.cell hbox5 A2.out⟩
    | exact ⟨(hst.step ((Below.refl _ _).alloc (Nat.le_refl _) _)).cell hbox5 A0.out, (hst.step ((Below.refl _ _).alloc (Nat.le_refl _) _)).cell hbox5 A1.out, (hst.step ((Below.refl _ _).alloc (Nat.le_refl _) _)).cell hbox5 A2.out⟩
    | exact R.out
    | exact ⟨(cell_far (.inl hpx) _).trans R.out.1, (cell_far (.inl hpx) _).trans R.out.2.1, (cell_far (.inl hpx) _).trans R.out.2.2⟩)
    (first
    | (go_at_call 47; refine (number_any _ ?_ ?_ _ ?_).mono ?_; (first | exact hp0 | exact hv0); (first | exact hp1 | exact hv1); (exact hst.ok); rintro e w6 ⟨rfl, hb6⟩; replace hst := hst.step hb6; clear hb6)
    | (go_at_call 46
       have hst5 := hst.1
       have hst6 := hst.step ((Below.refl _ _).alloc (Nat.le_refl _) (Obj.cells #[.string ⟨#[111, 112, 101, 110]⟩, .string ⟨(Lib.itoa p).toArray⟩, .string ⟨(Lib.itoa v).toArray⟩, .string s] 9))
       refine (write_D [[111, 112, 101, 110], Lib.itoa p, Lib.itoa v, s.data.toList] (hD5.below hst6.1) hst6.ok (heap_alloc_new _ _) (Nat.le_refl _) (by simp) ?hj hn).mono ?_
       (case hj => exact open_len p v s.data.toList hp0 hp1 hv0 hv1 (by simpa using hs0))
       rintro e w7 ⟨rfl, lb7, cap7, hD7, hM7, hlb7⟩
       have hnot : w.heap.size ∉ [d, lb] := by simp; omega
       have hlt6 := Nat.lt_of_lt_of_le hbox5 hst6.2.1
       have R : Hid (w7.cell? ⟨w.heap.size, 0, none⟩ = some (.int .i64 p) ∧ w7.cell? ⟨w.heap.size, 1, none⟩ = some (.int .i64 v) ∧ w7.cell? ⟨w.heap.size, 2, none⟩ = some (.string s)) := ⟨(World.cell?_of_block (hM7.block _ hlt6 hnot)).trans (hst6.cell hbox5 A0.out), (World.cell?_of_block (hM7.block _ hlt6 hnot)).trans (hst6.cell hbox5 A1.out), (World.cell?_of_block (hM7.block _ hlt6 hnot)).trans (hst6.cell hbox5 A2.out)⟩
       have g3 : w7.cell? ⟨pb, (p.toNat - 1) * 5 + 3, none⟩ = some (.int .i64 q.opn) := hD7.p3 (p := { q with value := v, right := hashL (textL p v s.data.toList) == q.hash }) HQ5.out
       have g4 : w7.cell? ⟨pb, (p.toNat - 1) * 5 + 4, none⟩ = some (.bool (hashL (textL p v s.data.toList) == q.hash)) := hD7.p4 (p := { q with value := v, right := hashL (textL p v s.data.toList) == q.hash }) HQ5.out
       have gd : w7.cell? ⟨d, 4, none⟩ = some (.int .i64 D.nopen) := hD7.c4
       have f3 := hD7.fp ((p.toNat - 1) * 5 + 3)
       have fd := hD7.fd 4
       clear hst hst6 hnot hlt6))
  have hdp := h.dp
  have hdp' := Ne.symm h.dp
  go_wp2_with fail
  go_ret2
  have e1 := hD7.setP (k := p.toNat - 1) (i := 3) (p := { q with value := v, right := hashL (textL p v s.data.toList) == q.hash }) (q := { q with value := v, opn := D.lines.length + 1, right := hashL (textL p v s.data.toList) == q.hash }) (v := .int .i64 (D.lines.length + 1)) HQ5.out rfl (by decide) rfl
  have e2 := e1.setD (i := 4) (v := .int .i64 (D.nopen + 1)) (D' := { D with lines := D.lines ++ [lineL [[111, 112, 101, 110], Lib.itoa p, Lib.itoa v, s.data.toList]], pers := D.pers.set (p.toNat - 1) { q with value := v, opn := D.lines.length + 1, right := hashL (textL p v s.data.toList) == q.hash }, nopen := D.nopen + 1 }) (by simp [drwC]) (by simp) rfl
  refine ⟨rfl, lb7, cap7, e2, ?_, ?_⟩
  · have m1 := (hM5.mono (L' := [d, pb, lb]) (by simp)).trans (((ModL.of_below hst5).alloc _).trans (hM7.mono (L' := [d, pb, lb]) (by simp)))
    exact (m1.setCell (p := ⟨pb, _, none⟩) (by simp) _).setCell (p := ⟨d, 4, none⟩) (by simp) _
  · rcases hlb7 with hlb7 | hlb7
    · exact .inl hlb7
    · exact .inr (by have := hst5.size; simp at hlb7; omega)

theorem saltB_len {l : List UInt8} (h : saltB l = true) : l.length ≤ 20 := by
  simp only [saltB, Bool.and_eq_true, decide_eq_true_eq] at h
  exact h.1.2
/-- Open, whatever it is handed. -/
theorem open_any (p v : Int) (s : ByteArray) (h : IsD B w d pb lb cap D) (hw : Ok w) (hl : D.pers.length ≤ 30) (hs : s.size ≤ 140737488351232) (hb1 : 1 ≤ D.below) (hb2 : D.below ≤ 1000000000) (hn : D.lines.length ≤ 1000000) (hno : D.nopen ≤ 1000000) :
    Calls Tryd.prog 26 #[.pointer (some ⟨d, 0, none⟩), boxV p v s] w (OpenP B w d pb lb (openD D p v s.data.toList)) := by
  by_cases h1 : 1 ≤ p ∧ p ≤ (D.pers.length : Int)
  · by_cases h2 : 0 ≤ v ∧ v ≤ D.below - 1
    · cases h3 : saltB s.data.toList with
      | false =>
        have hr : openD D p v s.data.toList = ((false, 4), D) := by simp only [openD, h1, h2, h3]; simp
        rw [hr]; exact open_4 p v s h hw hl hs hb1 hb2 h1 h2 h3
      | true =>
        cases h4 : runB D with
        | false =>
          have hr : openD D p v s.data.toList = ((false, 9), D) := by simp only [openD, h1, h2, h3, h4]; simp
          rw [hr]; exact open_9 p v s h hw hl hs hb1 hb2 h1 h2 h3 h4
        | true =>
          obtain ⟨q, hq⟩ := get_some (xs := D.pers) (k := p.toNat - 1) (by omega)
          by_cases h5 : 0 < q.opn
          · have hr : openD D p v s.data.toList = ((false, 6), D) := by simp only [openD, h1, h2, h3, h4, hq, h5]; simp
            rw [hr]; exact open_6 p v s h hw hl hs hb1 hb2 h1 h2 h3 h4 q hq h5
          · have hz := saltB_len h3
            have hr : openD D p v s.data.toList = ((hashL (textL p v s.data.toList) == q.hash, 0), { D with lines := D.lines ++ [lineL [[111, 112, 101, 110], Lib.itoa p, Lib.itoa v, s.data.toList]], pers := D.pers.set (p.toNat - 1) { q with value := v, opn := D.lines.length + 1, right := hashL (textL p v s.data.toList) == q.hash }, nopen := D.nopen + 1 }) := by
              simp only [openD, h1, h2, h3, h4, hq, h5]; simp
            rw [hr]; exact open_0 p v s h hw hl hs hb1 hb2 h1 h2 h3 h4 q hq (by simp at hz; omega) (by omega) hn hno
    · have hr : openD D p v s.data.toList = ((false, 3), D) := by simp only [openD, if_neg (not_not_intro h1), if_pos h2]
      rw [hr]; exact open_3 p v s h hw hl hs hb1 hb2 h1 h2
  · have hr : openD D p v s.data.toList = ((false, 7), D) := by simp only [openD, if_pos h1]
    rw [hr]; exact open_7 p v s h hw hl hs hb1 hb2 h1
end Go.Proofs.YtcmpindjgfojaaaDoor
