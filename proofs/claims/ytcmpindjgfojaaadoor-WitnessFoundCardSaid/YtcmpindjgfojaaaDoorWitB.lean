/- Walks: a hash in sixteen digits: the library's FormatUint at base 16, then what package witness makes of it. -/
import Derived.Test.YtcmpindjgfojaaaDoorWitA
import Derived.Laws.Rows
import Derived.Lib.AppendIntMem
namespace Go.Proofs.YtcmpindjgfojaaaDoor
open Go.RowKit

theorem pow2_16 (w : World) : Calls Tryd.prog 117 #[.int .i64 16] w fun e w' => e = .returned (.bool true) ∧ w = w' := by
  have e1 : (bits BinOp.and IntKind.i64 16 15) = 0 := by decide +kernel
  go_enter Tryd.func117, Tryd.ntmps117
  go_wp2
  go_ret
  simp
set_option maxRecDepth 100000 in
theorem tz_16 (w : World) (h : w.cell? ⟨7, 15, none⟩ = some (.int .u8 4)) : Calls Tryd.prog 118 #[.int .u64 16] w fun e w' => e = .returned (.int .i64 4) ∧ w = w' := by
  have e1 : (IntKind.u64.wrap (bits BinOp.and IntKind.u64 16 (IntKind.u64.wrap (-16)) * 285870213051353865) / 288230376151711744) = 15 := by decide +kernel
  go_enter Tryd.func118, Tryd.ntmps118
  go_wp2
  go_ret
  simp

def FmtRel (w wr : World) (i : Nat) (tail : List UInt8) : Prop := i + tail.length = 65 ∧ Below w.heap.size w wr ∧ ∃ cur, wr.heap[w.heap.size]? = some (.cells cur 166 (0, 0)) ∧ cur.size = 65 ∧ ∀ j c, tail[j]? = some c → cur[i + j]? = some (.int .u8 c.toNat)
def hexc (n : Nat) : UInt8 := if n < 10 then (48 + n).toUInt8 else (87 + n).toUInt8
def hexL (u : Nat) : List UInt8 := if u < 16 then [hexc u] else hexL (u / 16) ++ [hexc (u % 16)]
theorem FmtRel.cell {w wr : World} {i : Nat} {tail : List UInt8} (h : FmtRel w wr i tail) (k : Nat) (hk : k < 65) : ∃ v, wr.cell? ⟨w.heap.size, k, none⟩ = some v := by
  obtain ⟨_, _, cur, h1, h2, _⟩ := h
  exact ⟨cur[k], by simp [World.cell?, h1, h2, hk]⟩
theorem FmtRel.free {w wr : World} {i : Nat} {tail : List UInt8} (h : FmtRel w wr i tail) (k : Nat) : wr.frozen? ⟨w.heap.size, k, none⟩ = false := by
  obtain ⟨_, _, cur, h1, h2, _⟩ := h
  simp [World.frozen?, h1]
theorem FmtRel.push {w wr : World} {i : Nat} {tail : List UInt8} (h : FmtRel w wr i tail) (h1 : 1 ≤ i) (c : UInt8) {v : Value} (hv : v = .int .u8 c.toNat) : FmtRel w (wr.setCell ⟨w.heap.size, i - 1, none⟩ v) (i - 1) (c :: tail) := by
  subst hv
  obtain ⟨e, hb, cur, h2, h3, h4⟩ := h
  refine ⟨by simp; omega, hb.setCell (p := ⟨w.heap.size, i - 1, none⟩) (Nat.le_refl _) _, cur.setIfInBounds (i - 1) (.int .u8 c.toNat), ?_, by simpa using h3, ?_⟩
  · simp only [World.setCell, Array.getElem?_modify, h2]
    simp
  · intro j d hj
    cases j with
    | zero =>
      simp at hj
      subst hj
      simp [Array.getElem?_setIfInBounds, h3]
      omega
    | succ j =>
      have := h4 j d (by simpa using hj)
      rw [Array.getElem?_setIfInBounds_ne (by omega), ← this]
      congr 1
      omega
theorem FmtRel.str {w wr : World} {i : Nat} {tail : List UInt8} (h : FmtRel w wr i tail) : (convert 40 9 (.slice (some ⟨w.heap.size, i, none⟩) tail.length tail.length)).run Tryd.prog wr = .ok (.string ⟨tail.toArray⟩) wr := by
  refine run_convert_bytes_back wr 40 9 5 ⟨w.heap.size, i, none⟩ _ tail Tryd.underlying40 Tryd.underlying5 Tryd.underlying9 (fun j hj => ?_)
  obtain ⟨e, hb, cur, h2, h3, h4⟩ := h
  have := h4 j _ (List.getElem?_eq_getElem hj)
  have ea : (⟨w.heap.size, i, none⟩ : Addr).add j = ⟨w.heap.size, i + j, none⟩ := by
    unfold Addr.add; split
    · subst_vars; rfl
    · rfl
  rw [ea]
  simpa [World.cell?, h2] using this
theorem and_15 (n : Nat) (h : n < 18446744073709551616) : bits BinOp.and IntKind.u64 (n : Int) 15 = ((n % 16 : Nat) : Int) := by
  have : bits BinOp.and IntKind.u64 (n : Int) 15 = (n : Int) % 16 := by
    have h0 : (0 : Int) ≤ n := by omega
    have h1 : (n : Int) < 18446744073709551616 := by omega
    go_bits2
  rw [this]; omega
def hexS : ByteArray := ⟨#[48, 49, 50, 51, 52, 53, 54, 55, 56, 57, 97, 98, 99, 100, 101, 102, 103, 104, 105, 106, 107, 108, 109, 110, 111, 112, 113, 114, 115, 116, 117, 118, 119, 120, 121, 122]⟩
theorem hexS_at (n : Nat) (h : n < 16) (h' : n < hexS.size) : hexS[n] = hexc n := by
  revert h'; revert h; revert n; decide
theorem hexS_get (k : Nat) (h' : k < hexS.size) (n : Nat) (e : k = n) (h : n < 16) : hexS[k] = hexc n := by
  subst e; exact hexS_at k h h'
theorem pow_bd (n k : Nat) (h : n < 16 ^ (16 - k)) : n < 18446744073709551616 :=
  Nat.lt_of_lt_of_le h (Nat.le_trans (Nat.pow_le_pow_right (by decide) (by omega : 16 - k ≤ 16)) (by decide))
theorem pow_dec {n k : Nat} (hk : k < 16) (h : n < 16 ^ (16 - k)) (h16 : 16 ≤ n) : n / 16 < 16 ^ (16 - (k + 1)) ∧ k + 1 < 16 := by
  obtain ⟨d, hd⟩ : ∃ d, 16 - k = d + 1 := ⟨15 - k, by omega⟩
  have e : 16 - (k + 1) = d := by omega
  rw [hd, Nat.pow_succ] at h
  rw [e]
  refine ⟨by omega, ?_⟩
  by_cases h0 : d = 0
  · subst h0; simp at h; omega
  · omega
theorem hexL_ge {n : Nat} (h : 16 ≤ n) : hexL n = hexL (n / 16) ++ [hexc (n % 16)] := by
  rw [hexL, if_neg (by omega)]
theorem hexL_lt {n : Nat} (h : n < 16) : hexL n = [hexc n] := by
  rw [hexL, if_pos h]
set_option maxRecDepth 100000 in
set_option maxHeartbeats 1000000 in
theorem fmt_16 (u : Nat) (hu : u < 18446744073709551616) (w : World) (hw : 8 ≤ w.heap.size) (h : w.cell? ⟨7, 15, none⟩ = some (.int .u8 4)) :
    Calls Tryd.prog 99 #[.slice none 0 0, .int .u64 u, .int .i64 16, .bool false, .bool false] w fun e w' => e = .returned (.tuple #[.slice none 0 0, .string ⟨(hexL u).toArray⟩]) ∧ Below w.heap.size w w' := by
  have h2 : (w.alloc (Obj.cells Tryd.zeroCells166 166)).cell? ⟨7, 15, none⟩ = some (.int .u8 4) := (((Below.refl 8 w).alloc hw _).cell (p := ⟨7, 15, none⟩) (by decide)).trans h
  go_enter Tryd.func99, Tryd.ntmps99
  go_wp2_with (first | (go_at_call 117; refine (pow2_16 _).mono ?_; rintro e w' ⟨rfl, rfl⟩) | (go_at_call 118; refine (tz_16 _ h2).mono ?_; rintro e w' ⟨rfl, rfl⟩))
  go_loopw [1, 13] (fun x y wr => ∃ (n i : Nat) (tail : List UInt8), x = .int .u64 n ∧ y = .int .i64 i ∧ hexL u = hexL n ++ tail ∧ n < 16 ^ (16 - tail.length) ∧ tail.length < 16 ∧ FmtRel w wr i tail) (fun x _ _ => (intOf x).toNat)
  case atStart => exact ⟨u, 65, [], rfl, rfl, by simp, by simpa using hu, by simp, rfl, (Below.refl _ _).alloc (Nat.le_refl _) _, _, heap_alloc_new _ _, rfl, by simp⟩
  case round =>
    obtain ⟨n, i, tail, rfl, rfl, hx, hn, htl, hrel⟩ := hrel
    have Hx := Lib.hid hx; clear hx
    have Hn := Lib.hid hn; clear hn
    have hi : i + tail.length = 65 := hrel.1
    have hi1 : 50 ≤ i := by omega
    have hi2 : i ≤ 65 := by omega
    have Hi := Lib.hid hi; clear hi
    obtain ⟨v0, hv0⟩ := hrel.cell (i - 1) (by omega)
    have hf0 := hrel.free (i - 1)
    have Hr := Lib.hid hrel; clear hrel
    have hnb := pow_bd n tail.length Hn.out
    by_cases h16 : 16 ≤ n
    · have e15 := and_15 n hnb
      have b0 : (0 : Int) ≤ bits BinOp.and IntKind.u64 (n : Int) 15 := by rw [e15]; omega
      have b1 : bits BinOp.and IntKind.u64 (n : Int) 15 < 36 := by rw [e15]; omega
      have E15 := Lib.hid e15; clear e15
      go_wp2
      go_roundw
      case rel =>
        obtain ⟨p1, p2⟩ := pow_dec htl Hn.out h16
        refine ⟨n / 16, i - 1, hexc (n % 16) :: tail, by go_num, by rw [show ((i : Int) - 1) = ((i - 1 : Nat) : Int) by omega], ?_, p1, p2, Hr.out.push (by omega) _ ?_⟩
        · rw [Hx.out, hexL_ge h16]; simp
        · exact congrArg (fun c : UInt8 => Value.int .u8 (c.toNat : Int)) (hexS_get _ _ (n % 16) (by rw [E15.out]; rfl) (by omega))
      case measure => simp [intOf]; omega
    · have hs1 : ∀ wx, (Instr.sliceAt 166 (.pointer (some ⟨w.heap.size, 0, none⟩)) (some (.int .i64 ((i : Int) - 1))) none none).run Tryd.prog wx = .ok (.slice (some ⟨w.heap.size, i - 1, none⟩) (tail.length + 1) (tail.length + 1)) wx := by
        intro wx
        have hal : Tryd.prog.arrayLen 166 = 65 := by kernel_rfl
        have hel : Tryd.prog.elem 166 = 5 := by kernel_rfl
        have e0 := Hi.out
        rw [run_sliceAt_array_l wx 166 ⟨w.heap.size, 0, none⟩ Tryd.underlying166 .i64 _ (by omega) (by rw [hal]; omega), hal, hel, Tryd.sizeOf5]
        simp only [Result.andThen, slicedAt]
        rw [if_neg (by omega)]
        congr 2
        · unfold Addr.add; rw [if_neg (by omega)]; simp
          try omega
        · omega
        · omega
      have HS := Lib.hid hs1; clear hs1
      go_wp2
      rw [HS.out]
      go_wp2
      rw [show tail.length + 1 = (hexc n :: tail).length from rfl, FmtRel.str (w := w) (tail := hexc n :: tail) ?hrel]
      case hrel => exact Hr.out.push (by omega) _ (congrArg (fun c : UInt8 => Value.int .u8 (c.toNat : Int)) (hexS_get _ _ n (by simp) (by omega)))
      go_wp2
      go_ret2
      refine ⟨?_, Hr.out.2.1.setCell (p := ⟨w.heap.size, i - 1, none⟩) (Nat.le_refl _) _⟩
      rw [Hx.out, hexL_lt (by omega)]
      rfl

/-- What the walks ask of a world's table. -/
theorem Ok.tz {w : World} (h : Ok w) : w.cell? ⟨7, 15, none⟩ = some (.int .u8 4) := by
  have := Lib.TabIs.cell h.glb.deB (g := 7) (by kernel_rfl) 15 (by decide)
  simpa [Lib.deBruijn64tab] using this
theorem hexL_size : ∀ (k n : Nat), n < 16 ^ (k + 1) → 1 ≤ (hexL n).length ∧ (hexL n).length ≤ k + 1
  | 0, n, h => by rw [hexL_lt (by simpa using h)]; simp
  | k + 1, n, h => by
    by_cases h16 : n < 16
    · rw [hexL_lt h16]; simp
    · rw [hexL_ge (by omega)]
      have := hexL_size k (n / 16) (by rw [Nat.pow_succ] at h; omega)
      simp; omega

set_option maxHeartbeats 400000 in
theorem formatU_in (u : Nat) (hu : u < 18446744073709551616) (w : World) (hw : Ok w) :
    Calls Tryd.prog 72 #[.int .u64 u, .int .i64 16] w fun e w' => e = .returned (.string ⟨(hexL u).toArray⟩) ∧ Below w.heap.size w w' := by
  have hz := hw.size
  have ht := hw.tz
  go_enter Tryd.func72, Tryd.ntmps72
  go_wp2_with (go_at_call 99; refine (fmt_16 u hu _ hz ht).mono ?_; rintro e w' ⟨rfl, hb⟩)
  go_ret
  exact ⟨rfl, hb⟩
theorem formatU_any (u : Nat) (hu : u < 18446744073709551616) (w : World) (hw : Ok w) :
    Calls Tryd.prog 59 #[.int .u64 u, .int .i64 16] w fun e w' => e = .returned (.string ⟨(hexL u).toArray⟩) ∧ Below w.heap.size w w' := by
  go_enter Tryd.func59, Tryd.ntmps59
  go_wp2_with (go_at_call 72; refine (formatU_in u hu _ hw).mono ?_; rintro e w' ⟨rfl, hb⟩)
  go_ret
  exact ⟨rfl, hb⟩

/-- Sixteen hexadecimal digits. -/
def hex16 (u : Nat) : List UInt8 := List.replicate (16 - (hexL u).length) 48 ++ hexL u
theorem repeatL_one (b : UInt8) : ∀ n : Nat, Lib.repeatL [b] n = List.replicate n b
  | 0 => rfl
  | n + 1 => by simp only [Lib.repeatL, repeatL_one b n, List.replicate_succ, List.singleton_append]
theorem repeat0 (n : Int) (h0 : 0 ≤ n) (h1 : n ≤ 64) (w : World) :
    Calls Tryd.prog 60 #[.string ⟨#[48]⟩, .int .i64 n] w fun e w' => e = .returned (.string ⟨(List.replicate n.toNat 48).toArray⟩) ∧ Below w.heap.size w w' := by
  obtain ⟨c, rfl⟩ := Int.eq_ofNat_of_zero_le h0
  refine (Tryd.strings_Repeat ⟨#[48]⟩ c w (by omega) (by show 1 * c ≤ _; omega)).mono fun e w' ⟨he, hb⟩ => ⟨?_, hb⟩
  rw [he]
  exact ret_str (repeatL_one 48 c)
theorem rep_app (k : Nat) (c : UInt8) (b : List UInt8) : (⟨Array.replicate k c⟩ : ByteArray) ++ ⟨b.toArray⟩ = ⟨(List.replicate k c ++ b).toArray⟩ := by
  apply ByteArray.ext
  simp
theorem str_app (a b : List UInt8) : (⟨a.toArray⟩ : ByteArray) ++ ⟨b.toArray⟩ = ⟨(a ++ b).toArray⟩ := by
  apply ByteArray.ext
  simp
set_option maxHeartbeats 400000 in
theorem string_any (u : Nat) (hu : u < 18446744073709551616) (w : World) (hw : Ok w) :
    Calls Tryd.prog 34 #[.int .u64 u] w fun e w' => e = .returned (.string ⟨(hex16 u).toArray⟩) ∧ Below w.heap.size w w' := by
  obtain ⟨h1, h2⟩ := hexL_size 15 u hu
  go_enter Tryd.func34, Tryd.ntmps34
  go_wp2_with (go_at_call 59; refine (formatU_any u hu _ hw).mono ?_; rintro e w1 ⟨rfl, hb1⟩)
  refine (repeat0 _ (by omega) (by omega) _).mono ?_
  rintro e w2 ⟨rfl, hb2⟩
  go_wp2_with fail
  go_ret
  refine ⟨?_, hb1.trans (hb2.mono hb1.size)⟩
  exact congrArg (fun s => Ending.returned (.string s)) (rep_app _ _ _)

/-- The number that a hash begins as. -/
def fnv (l : List UInt8) : Int := fnvOn 14695981039346656037 l
theorem wrap64_bd (x : Int) : 0 ≤ IntKind.u64.wrap x ∧ IntKind.u64.wrap x < 18446744073709551616 := by
  simp only [IntKind.wrap, IntKind.signed, IntKind.bits]
  constructor
  · exact Int.emod_nonneg _ (by decide)
  · exact Int.emod_lt_of_pos _ (by decide)
theorem fnvOn_bd (l : List UInt8) : ∀ h : Int, 0 ≤ h → h < 18446744073709551616 → 0 ≤ fnvOn h l ∧ fnvOn h l < 18446744073709551616 := by
  induction l with
  | nil => exact fun h h0 h1 => ⟨h0, h1⟩
  | cons c r ih => exact fun h _ _ => ih _ (wrap64_bd _).1 (wrap64_bd _).2
theorem fnv_bd (l : List UInt8) : 0 ≤ fnv l ∧ fnv l < 18446744073709551616 := fnvOn_bd l _ (by decide) (by decide)
theorem fnvOn_app (h : Int) (a b : List UInt8) : fnvOn h (a ++ b) = fnvOn (fnvOn h a) b := List.foldl_append ..
/-- The hash of a text. -/
def hashL (l : List UInt8) : List UInt8 := hex16 (fnv l).toNat
/-- What witness.Hash returns. -/
theorem string_of (x : Int) (h0 : 0 ≤ x) (h1 : x < 18446744073709551616) (w : World) (hw : Ok w) :
    Calls Tryd.prog 34 #[.int .u64 x] w fun e w' => e = .returned (.string ⟨(hex16 x.toNat).toArray⟩) ∧ Below w.heap.size w w' := by
  obtain ⟨u, rfl⟩ := Int.eq_ofNat_of_zero_le h0
  exact string_any u (by omega) w hw
set_option maxRecDepth 100000 in
theorem hash_long (s : ByteArray) (hs : 1000 < s.size) (hm : s.size ≤ 140737488351232) (w : World) :
    Calls Tryd.prog 10 #[.string s] w fun e w' => e = .returned (.tuple #[.string ⟨#[]⟩, .int .i64 5]) ∧ w = w' := by
  go_enter Tryd.func10, Tryd.ntmps10
  go_wp2
  go_ret2
  exact ⟨rfl, rfl⟩
set_option maxRecDepth 100000 in
theorem hash_any (s : ByteArray) (hs : s.size ≤ 1000) (w : World) (hw : Ok w) :
    Calls Tryd.prog 10 #[.string s] w fun e w' => e = .returned (.tuple #[.string ⟨(hashL s.data.toList).toArray⟩, .int .i64 0]) ∧ Below w.heap.size w w' := by
  go_enter Tryd.func10, Tryd.ntmps10
  go_wp2_with (go_at_call 33; refine (with_any _ s _ (by omega)).mono ?_; rintro e w1 ⟨rfl, hb1⟩)
  refine (string_of _ (fnv_bd s.data.toList).1 (fnv_bd s.data.toList).2 _ (hw.below hb1)).mono ?_
  rintro e w2 ⟨rfl, hb2⟩
  go_wp2_with fail
  go_ret2
  exact ⟨rfl, hb1.trans (hb2.mono hb1.size)⟩

/-- witness.number: decimal digits. -/
theorem number_any (n : Int) (h0 : 0 ≤ n) (h1 : n ≤ 9223372036854775807) (w : World) (hw : Ok w) :
    Calls Tryd.prog 47 #[.int .i64 n] w fun e w' => e = .returned (.string ⟨(Lib.itoa n).toArray⟩) ∧ Below w.heap.size w w' := by
  go_enter Tryd.func47, Tryd.ntmps47
  go_wp2_with (go_at_call 62; refine (Tryd.strconv_Itoa n (by omega) h1 _ hw.glb.pow10).mono ?_; rintro e w1 ⟨rfl, k, os, rfl⟩)
  go_ret
  exact ⟨rfl, Lib.below_grow _ w (Nat.le_refl _) k os⟩
end Go.Proofs.YtcmpindjgfojaaaDoor
