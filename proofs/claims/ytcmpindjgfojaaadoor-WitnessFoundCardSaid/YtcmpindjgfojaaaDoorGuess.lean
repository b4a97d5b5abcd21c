/- Walks: Guess. -/
import Derived.Test.YtcmpindjgfojaaaDoorPu
import Derived.Test.YtcmpindjgfojaaaDoorWitJ
import Derived.Laws.CopyOwn
import Derived.Laws.Rows
namespace Go.Proofs.YtcmpindjgfojaaaDoor
open Go.RowKit

/-- A text is no salt. -/
def badB (s : ByteArray) : Bool := !saltB s.data.toList
theorem guess1_any (s : ByteArray) (hs : s.size ≤ 140737488351232) (w : World) :
    Calls Tryd.prog 57 #[.string s] w fun e w' => e = .returned (.bool (badB s)) ∧ Below w.heap.size w w' := by
  have h := isSalt_any s hs
  unfold badB
  generalize saltB s.data.toList = b at h ⊢
  have H := Lib.hid h; clear h
  go_enter Tryd.func57, Tryd.ntmps57
  go_wp2_with fail
  refine (H.out _).mono ?_
  rintro e w1 ⟨rfl, hb1⟩
  go_wp2
  go_ret
  exact ⟨by simp, hb1⟩
set_option maxRecDepth 100000 in
set_option maxHeartbeats 1000000 in
theorem indexFunc_any (v : Value) (xs : List ByteArray) (w : World) (hv : Sl Value.string w v xs) (hl : xs.length ≤ 1000000) (hx : ∀ x ∈ xs, x.size ≤ 140737488351232) :
    Calls Tryd.prog 69 #[v, .func (.func 57) #[] #[]] w fun e w' => (∃ r : Int, e = .returned (.int .i64 r) ∧ decide (0 ≤ r) = xs.any badB) ∧ Below w.heap.size w w' := by
  obtain ⟨a, c, rfl, hcap, hcell⟩ := hv
  have HC := Lib.hid hcell; have HX := Lib.hid hx
  clear hcell hx
  go_enter Tryd.func69, Tryd.ntmps69
  go_wp2_with fail
  go_loopw [8] (fun i wr => ∃ k : Nat, k ≤ xs.length ∧ i = .int .i64 k ∧ (xs.take k).any badB = false ∧ Below w.heap.size w wr) (fun i _ => xs.length - (intOf i).toNat)
  case atStart => exact ⟨0, Nat.zero_le _, rfl, rfl, Below.refl _ _⟩
  case round =>
    obtain ⟨k, hk, rfl, hno, hbr⟩ := hrel
    have HN := Lib.hid hno
    clear hno
    by_cases hlt : k < xs.length
    · obtain ⟨b0, off, rfl, hb0, hcells⟩ := HC.out (by omega)
      obtain ⟨x, hxk⟩ := get_some hlt
      have hcx : wr.cell? ⟨b0, off + k, none⟩ = some (.string x) := (hbr.cell (p := ⟨b0, off + k, none⟩) hb0).trans (hcells k x hxk)
      have hG := guess1_any x (HX.out x (List.mem_of_getElem? hxk)) wr
      have HS := Lib.hid (take_snoc hxk)
      have HM := Lib.hid (List.mem_of_getElem? hxk)
      clear hcells hxk
      cases hb : badB x with
      | true =>
        rw [hb] at hG
        have HG := Lib.hid hG; have HB := Lib.hid hb
        clear hG hb
        go_wp2_with fail
        refine (HG.out).mono ?_
        rintro e w1 ⟨rfl, hb1⟩
        go_wp2
        go_ret
        refine ⟨⟨_, rfl, ?_⟩, hbr.trans (hb1.mono hbr.size)⟩
        have : xs.any badB = true := List.any_eq_true.2 ⟨x, HM.out, HB.out⟩
        rw [this]; simp
      | false =>
        rw [hb] at hG
        have HG := Lib.hid hG; have HB := Lib.hid hb
        clear hG hb
        go_wp2_with fail
        refine (HG.out).mono ?_
        rintro e w1 ⟨rfl, hb1⟩
        go_wp2
        go_roundw
        case rel =>
          refine ⟨k + 1, by omega, by simp, ?_, hbr.trans (hb1.mono hbr.size)⟩
          rw [HS.out, List.any_append, HN.out]
          simp [HB.out]
        case measure => simp [intOf]; omega
    · obtain rfl : k = xs.length := by omega
      go_wp2
      go_ret
      refine ⟨⟨_, rfl, ?_⟩, hbr⟩
      have := HN.out
      rw [List.take_length] at this
      rw [this]; simp
theorem contains_any (v : Value) (xs : List ByteArray) (w : World) (hv : Sl Value.string w v xs) (hl : xs.length ≤ 1000000) (hx : ∀ x ∈ xs, x.size ≤ 140737488351232) :
    Calls Tryd.prog 56 #[v, .func (.func 57) #[] #[]] w fun e w' => e = .returned (.bool (xs.any badB)) ∧ Below w.heap.size w w' := by
  have hI := indexFunc_any v xs w hv hl hx
  generalize xs.any badB = b at hI ⊢
  clear hv hx
  go_enter Tryd.func56, Tryd.ntmps56
  go_wp2_with fail
  refine hI.mono ?_
  rintro e w1 ⟨⟨r, rfl, hr⟩, hb1⟩
  have HR := Lib.hid hr; clear hr
  go_wp2
  go_ret
  exact ⟨ret_bool HR.out, hb1⟩

/-- Has a box the wanted hash? -/
def hitB (p : Int) (wanted : Nat) (s : ByteArray) (v : Nat) : Bool := decide (fnv (textL p v s.data.toList) = (wanted : Int))
/-- The first box with a hash. -/
def findS (p : Int) (wanted n : Nat) : List ByteArray → Option (Nat × ByteArray)
  | [] => none
  | s :: r => match (List.range n).find? (hitB p wanted s) with
    | some v => some (v, s)
    | none => findS p wanted n r
/-- What Guess returns. -/
def guessR (hash : ByteArray) (p below : Int) (salts : List ByteArray) : (Int × Int × ByteArray) × Int :=
  if hashB hash.data.toList = false then ((0, 0, ⟨#[]⟩), 4) else
  if ¬ (1 ≤ p ∧ p ≤ 30) ∨ ¬ (1 ≤ below ∧ below ≤ 1000000000) then ((0, 0, ⟨#[]⟩), 3) else
  if salts.any badB = true then ((0, 0, ⟨#[]⟩), 2) else
  if 100000 < (salts.length : Int) * below then ((0, 0, ⟨#[]⟩), 8) else
  match findS p (hexV hash.data.toList) below.toNat salts with
  | some (v, s) => ((p, v, s), 0)
  | none => ((0, 0, ⟨#[]⟩), 7)
def GuessP (w : World) (r : (Int × Int × ByteArray) × Int) (e : Ending) (w' : World) : Prop :=
  e = .returned (.tuple #[boxV r.1.1 r.1.2.1 r.1.2.2, .int .i64 r.2]) ∧ Below w.heap.size w w'
theorem findS_drop {p : Int} {wanted n : Nat} {xs : List ByteArray} {k : Nat} {x : ByteArray} (h : xs[k]? = some x) (hf : findS p wanted n (xs.drop k) = findS p wanted n xs) (hn : (List.range n).find? (hitB p wanted x) = none) : findS p wanted n (xs.drop (k + 1)) = findS p wanted n xs := by
  obtain ⟨hk, rfl⟩ := List.getElem?_eq_some_iff.1 h
  rw [← hf, List.drop_eq_getElem_cons hk]
  simp only [findS, hn]
theorem findS_hit {p : Int} {wanted n : Nat} {xs : List ByteArray} {k v : Nat} {x : ByteArray} (h : xs[k]? = some x) (hf : findS p wanted n (xs.drop k) = findS p wanted n xs) (hv : (List.range n).find? (hitB p wanted x) = some v) : findS p wanted n xs = some (v, x) := by
  obtain ⟨hk, rfl⟩ := List.getElem?_eq_some_iff.1 h
  rw [← hf, List.drop_eq_getElem_cons hk]
  simp only [findS, hv]
theorem find_range_none {f : Nat → Bool} {n : Nat} (h : ∀ u, u < n → f u = false) : (List.range n).find? f = none := by
  rw [List.find?_eq_none]
  intro x hx
  rw [h x (List.mem_range.1 hx)]; simp
theorem find_range_some {f : Nat → Bool} {n v : Nat} (hv : v < n) (ht : f v = true) (h : ∀ u, u < v → f u = false) : (List.range n).find? f = some v := by
  rw [List.find?_range_eq_some]
  exact ⟨ht, by simpa using hv, fun j hj => by rw [h j hj]; rfl⟩
theorem results_row_slot {fn : Func} {a q : Tmp} {ty : TypeId} (h : fn.results = #[.cell a ty, .tmp q]) {tmps : Array Value} {P : Program} {w : World} {x : Addr} {v : Value}
    (ha : tmps[a]?.getD undef = .pointer (some x)) (hx : (loadVar ty x).run P w = .ok v w) :
    (results fn tmps).run P w = .ok (.tuple #[v, tmps[q]?.getD undef]) w := by
  simp [results, h, ha, hx, asAddr, Sem.run_bind, Result.andThen]
theorem box_one (a b : Int) (s : ByteArray) : (#[.int .i64 a, .int .i64 b, .string s] : Array Value).all (·.oneCell') = true := by simp [Value.oneCell']
theorem infoBox : (Tryd.prog.info? 23).map (·.size) = some 3 := by kernel_rfl

/-- What stays while Guess goes on: its own result's block, and what came in. -/
structure GS (w : World) (wk : World) : Prop where
  blk : wk.heap[w.heap.size]? = some (.cells #[.int .i64 0, .int .i64 0, .string ⟨#[]⟩] 23 (0, 0))
  bel : Below w.heap.size w wk
  ok : Ok wk
theorem GS.step {w wk w' : World} (h : GS w wk) (hb : Below wk.heap.size wk w') : GS w w' :=
  ⟨(hb.block _ (lt_of_heap h.blk)).trans h.blk, h.bel.trans (hb.mono h.bel.size), h.ok.below hb⟩
theorem GS.of {w : World} (hw : Ok w) : GS w (w.alloc (Obj.cells #[.int .i64 0, .int .i64 0, .string ⟨#[]⟩] 23)) :=
  have hb : Below w.heap.size w (w.alloc (Obj.cells #[.int .i64 0, .int .i64 0, .string ⟨#[]⟩] 23)) := (Below.refl _ _).alloc (Nat.le_refl _) _
  ⟨World.alloc_heap_new w _, hb, hw.below hb⟩
theorem GS.fin {w wk : World} (h : GS w wk) (cs : Array Value) : Below w.heap.size w (wk.setRow w.heap.size cs) := below_setRow h.bel (Nat.le_refl _) cs
theorem GS.load {w wk : World} (h : GS w wk) (a b : Value) (c : Value) : (loadVar 23 ⟨w.heap.size, 0, none⟩).run Tryd.prog (wk.setRow w.heap.size #[a, b, c]) = .ok (.agg #[a, b, c]) (wk.setRow w.heap.size #[a, b, c]) :=
  run_loadVar_row _ _ 23 23 _ (0, 0) _ (setRow_heap _ _ _ _ _ _ h.blk) Tryd.underlying23 rfl infoBox

set_option maxRecDepth 100000 in
set_option maxHeartbeats 2000000 in
theorem guess_4 (hash : ByteArray) (p below : Int) (v : Value) (w : World) (hw : Ok w) (hs : hash.size ≤ 140737488351232) (h : hashB hash.data.toList = false) :
    Calls Tryd.prog 32 #[.string hash, .int .i64 p, .int .i64 below, v] w (GuessP w ((0, 0, ⟨#[]⟩), 4)) := by
  have hg := GS.of hw
  have hI := isHash_any hash hs
  rw [h] at hI
  have HI := Lib.hid hI
  clear hI h
  go_enter Tryd.func32, Tryd.ntmps32
  go_wp2_with fail
  refine (HI.out _).mono ?_
  rintro e w1 ⟨rfl, hb1⟩
  replace hg := hg.step hb1
  go_wp2_with (refine wpList_store_row rfl 23 (.tmp 8) (.tmp 20) rfl w.heap.size #[.int .i64 0, .int .i64 0, .string ⟨#[]⟩] rfl rfl 23 _ hg.blk infoBox rfl (box_one _ _ _) ?_)
  exact bodyPost_ret (results_row_slot rfl rfl (hg.load _ _ _)) rfl (And.intro rfl (hg.fin _))
set_option maxRecDepth 100000 in
set_option maxHeartbeats 4000000 in
theorem guess_3a (hash : ByteArray) (p below : Int) (v : Value) (w : World) (hw : Ok w) (hs : hash.size ≤ 140737488351232) (h : hashB hash.data.toList = true) (h1 : ¬ (1 ≤ p ∧ p ≤ 30)) :
    Calls Tryd.prog 32 #[.string hash, .int .i64 p, .int .i64 below, v] w (GuessP w ((0, 0, ⟨#[]⟩), 3)) := by
  have hg := GS.of hw
  have hI := isHash_any hash hs
  rw [h] at hI
  have HI := Lib.hid hI
  clear hI h
  have H1 := Lib.hid h1
  clear h1
  go_enter Tryd.func32, Tryd.ntmps32
  go_wp2_with fail
  refine (HI.out _).mono ?_
  rintro e w1 ⟨rfl, hb1⟩
  replace hg := hg.step hb1
  go_wp2_with fail
  refine (within_no _ _ _ _ H1.out).mono ?_
  rintro e w' ⟨rfl, rfl⟩
  go_wp2_with (refine wpList_store_row rfl 23 (.tmp 8) (.tmp 30) rfl w.heap.size #[.int .i64 0, .int .i64 0, .string ⟨#[]⟩] rfl rfl 23 _ hg.blk infoBox rfl (box_one _ _ _) ?_)
  exact bodyPost_ret (results_row_slot rfl rfl (hg.load _ _ _)) rfl (And.intro rfl (hg.fin _))
set_option maxRecDepth 100000 in
set_option maxHeartbeats 4000000 in
theorem guess_3b (hash : ByteArray) (p below : Int) (v : Value) (w : World) (hw : Ok w) (hs : hash.size ≤ 140737488351232) (h : hashB hash.data.toList = true) (h1 : 1 ≤ p ∧ p ≤ 30) (h2 : ¬ (1 ≤ below ∧ below ≤ 1000000000)) :
    Calls Tryd.prog 32 #[.string hash, .int .i64 p, .int .i64 below, v] w (GuessP w ((0, 0, ⟨#[]⟩), 3)) := by
  have hg := GS.of hw
  have hI := isHash_any hash hs
  rw [h] at hI
  have HI := Lib.hid hI
  clear hI h
  have H1 := Lib.hid h1; have H2 := Lib.hid h2
  clear h1 h2
  go_enter Tryd.func32, Tryd.ntmps32
  go_wp2_with fail
  refine (HI.out _).mono ?_
  rintro e w1 ⟨rfl, hb1⟩
  replace hg := hg.step hb1
  go_wp2_with fail
  refine (within_yes _ _ _ _ H1.out).mono ?_
  rintro e w' ⟨rfl, rfl⟩
  go_wp2_with fail
  refine (within_no _ _ _ _ H2.out).mono ?_
  rintro e w' ⟨rfl, rfl⟩
  go_wp2_with (refine wpList_store_row rfl 23 (.tmp 8) (.tmp 30) rfl w.heap.size #[.int .i64 0, .int .i64 0, .string ⟨#[]⟩] rfl rfl 23 _ hg.blk infoBox rfl (box_one _ _ _) ?_)
  exact bodyPost_ret (results_row_slot rfl rfl (hg.load _ _ _)) rfl (And.intro rfl (hg.fin _))
set_option maxRecDepth 100000 in
set_option maxHeartbeats 4000000 in
theorem guess_2 (hash : ByteArray) (p below : Int) (v : Value) (xs : List ByteArray) (w : World) (hw : Ok w) (hs : hash.size ≤ 140737488351232) (hv : Sl Value.string w v xs) (hl : xs.length ≤ 1000000) (hx : ∀ x ∈ xs, x.size ≤ 140737488351232) (h : hashB hash.data.toList = true) (h1 : 1 ≤ p ∧ p ≤ 30) (h2 : 1 ≤ below ∧ below ≤ 1000000000) (h3 : xs.any badB = true) :
    Calls Tryd.prog 32 #[.string hash, .int .i64 p, .int .i64 below, v] w (GuessP w ((0, 0, ⟨#[]⟩), 2)) := by
  have hg := GS.of hw
  have hI := isHash_any hash hs
  rw [h] at hI
  have HI := Lib.hid hI
  clear hI h
  have H1 := Lib.hid h1; have H2 := Lib.hid h2
  clear h1 h2
  have hK : ∀ W, Below w.heap.size w W → Calls Tryd.prog 56 #[v, .func (.func 57) #[] #[]] W fun e w' => e = .returned (.bool (xs.any badB)) ∧ Below W.heap.size W w' := fun W hW => contains_any v xs W (hv.below hW) hl hx
  rw [h3] at hK
  have HK := Lib.hid hK
  clear hK h3 hv hx
  go_enter Tryd.func32, Tryd.ntmps32
  go_wp2_with fail
  refine (HI.out _).mono ?_
  rintro e w1 ⟨rfl, hb1⟩
  replace hg := hg.step hb1
  go_wp2_with fail
  refine (within_yes _ _ _ _ H1.out).mono ?_
  rintro e w' ⟨rfl, rfl⟩
  go_wp2_with fail
  refine (within_yes _ _ _ _ H2.out).mono ?_
  rintro e w' ⟨rfl, rfl⟩
  go_wp2_with fail
  refine (HK.out _ hg.bel).mono ?_
  rintro e w2 ⟨rfl, hb2⟩
  replace hg := hg.step hb2
  go_wp2_with (refine wpList_store_row rfl 23 (.tmp 8) (.tmp 34) rfl w.heap.size #[.int .i64 0, .int .i64 0, .string ⟨#[]⟩] rfl rfl 23 _ hg.blk infoBox rfl (box_one _ _ _) ?_)
  exact bodyPost_ret (results_row_slot rfl rfl (hg.load _ _ _)) rfl (And.intro rfl (hg.fin _))
set_option maxRecDepth 100000 in
set_option maxHeartbeats 4000000 in
theorem guess_8 (hash : ByteArray) (p below : Int) (v : Value) (xs : List ByteArray) (w : World) (hw : Ok w) (hs : hash.size ≤ 140737488351232) (hv : Sl Value.string w v xs) (hl : xs.length ≤ 1000000) (hx : ∀ x ∈ xs, x.size ≤ 140737488351232) (h : hashB hash.data.toList = true) (h1 : 1 ≤ p ∧ p ≤ 30) (h2 : 1 ≤ below ∧ below ≤ 1000000000) (h3 : xs.any badB = false) (h4 : 100000 < (xs.length : Int) * below) :
    Calls Tryd.prog 32 #[.string hash, .int .i64 p, .int .i64 below, v] w (GuessP w ((0, 0, ⟨#[]⟩), 8)) := by
  have hg := GS.of hw
  have hI := isHash_any hash hs
  rw [h] at hI
  have HI := Lib.hid hI
  clear hI h
  have H1 := Lib.hid h1; have H2 := Lib.hid h2
  obtain ⟨m, hm⟩ : ∃ m : Int, m = (xs.length : Int) * below := ⟨_, rfl⟩
  have hm1 : 0 ≤ m := by rw [hm]; exact Int.mul_nonneg (by omega) (by omega)
  have hm2 : m ≤ 1000000 * 1000000000 := by rw [hm]; exact Int.mul_le_mul (by omega) h2.2 (by omega) (by omega)
  rw [← hm] at h4
  have hmw : IntKind.i64.wrap ((xs.length : Int) * below) = m := by rw [← hm, IntKind.wrap_i64]; omega
  clear h1 h2
  have hv0 := hv
  have hK : ∀ W, Below w.heap.size w W → Calls Tryd.prog 56 #[v, .func (.func 57) #[] #[]] W fun e w' => e = .returned (.bool (xs.any badB)) ∧ Below W.heap.size W w' := fun W hW => contains_any v xs W (hv.below hW) hl hx
  rw [h3] at hK
  have HK := Lib.hid hK
  clear hK h3 hv hx
  obtain ⟨a, c, rfl, hcap, hcell⟩ := hv0
  clear hcell
  go_enter Tryd.func32, Tryd.ntmps32
  go_wp2_with fail
  refine (HI.out _).mono ?_
  rintro e w1 ⟨rfl, hb1⟩
  replace hg := hg.step hb1
  go_wp2_with fail
  refine (within_yes _ _ _ _ H1.out).mono ?_
  rintro e w' ⟨rfl, rfl⟩
  go_wp2_with fail
  refine (within_yes _ _ _ _ H2.out).mono ?_
  rintro e w' ⟨rfl, rfl⟩
  go_wp2_with fail
  refine (HK.out _ hg.bel).mono ?_
  rintro e w2 ⟨rfl, hb2⟩
  replace hg := hg.step hb2
  clear hm1 hm2 hm
  go_wp2_with (refine wpList_store_row rfl 23 (.tmp 8) (.tmp 41) rfl w.heap.size #[.int .i64 0, .int .i64 0, .string ⟨#[]⟩] rfl rfl 23 _ hg.blk infoBox rfl (box_one _ _ _) ?_)
  exact bodyPost_ret (results_row_slot rfl rfl (hg.load _ _ _)) rfl (And.intro rfl (hg.fin _))
set_option maxRecDepth 100000 in
set_option maxHeartbeats 4000000 in
theorem guess_go (hash : ByteArray) (p below : Int) (v : Value) (xs : List ByteArray) (w : World) (hw : Ok w) (hs : hash.size ≤ 140737488351232) (hv : Sl Value.string w v xs) (hl : xs.length ≤ 1000000) (hx : ∀ x ∈ xs, x.size ≤ 1000)
    (h : hashB hash.data.toList = true) (h1 : 1 ≤ p ∧ p ≤ 30) (h2 : 1 ≤ below ∧ below ≤ 1000000000) (h3 : xs.any badB = false) (h4 : (xs.length : Int) * below ≤ 100000)
    (r : (Int × Int × ByteArray) × Int) (hr : r = match findS p (hexV hash.data.toList) below.toNat xs with | some (v, s) => ((p, v, s), 0) | none => ((0, 0, ⟨#[]⟩), 7)) :
    Calls Tryd.prog 32 #[.string hash, .int .i64 p, .int .i64 below, v] w (GuessP w r) := by
  have hPU := parse16_any hash h
  have hg := GS.of hw
  have hI := isHash_any hash hs
  rw [h] at hI
  have HI := Lib.hid hI
  clear hI h
  have H1 := Lib.hid h1; have H2 := Lib.hid h2
  obtain ⟨n, rfl⟩ := Int.eq_ofNat_of_zero_le (show 0 ≤ below by omega)
  obtain ⟨m, hm⟩ : ∃ m : Int, m = (xs.length : Int) * (n : Int) := ⟨_, rfl⟩
  have hm1 : 0 ≤ m := by rw [hm]; exact Int.mul_nonneg (by omega) (by omega)
  rw [← hm] at h4
  have hmw : IntKind.i64.wrap ((xs.length : Int) * (n : Int)) = m := by rw [← hm, IntKind.wrap_i64]; omega
  have hn0 : 1 ≤ n := by omega
  have hn1 : n ≤ 1000000000 := by omega
  have hp0 : 0 ≤ p := by omega
  have hp1 : p ≤ 30 := by omega
  have hK : ∀ W, Below w.heap.size w W → Calls Tryd.prog 56 #[v, .func (.func 57) #[] #[]] W fun e w' => e = .returned (.bool (xs.any badB)) ∧ Below W.heap.size W w' := fun W hW => contains_any v xs W (hv.below hW) hl (fun x hx' => Nat.le_trans (hx x hx') (by decide))
  rw [h3] at hK
  generalize hexV hash.data.toList = wanted at hPU hr
  have hnn : (n : Int).toNat = n := by omega
  rw [hnn] at hr
  have HK := Lib.hid hK; have HPU := Lib.hid hPU; have HX := Lib.hid hx; have HR := Lib.hid hr
  obtain ⟨a, c, rfl, hcap, hcell⟩ := hv
  have HC := Lib.hid hcell
  clear hK h3 hx hPU hr hm hcell h1 h2 hnn
  go_enter Tryd.func32, Tryd.ntmps32
  go_wp2_with fail
  refine (HI.out _).mono ?_
  rintro e w1 ⟨rfl, hb1⟩
  replace hg := hg.step hb1
  go_wp2_with fail
  refine (within_yes _ _ _ _ H1.out).mono ?_
  rintro e w' ⟨rfl, rfl⟩
  go_wp2_with fail
  refine (within_yes _ _ _ _ H2.out).mono ?_
  rintro e w' ⟨rfl, rfl⟩
  go_wp2_with fail
  refine (HK.out _ hg.bel).mono ?_
  rintro e w2 ⟨rfl, hb2⟩
  replace hg := hg.step hb2
  go_wp2_with fail
  refine (HPU.out _).mono ?_
  rintro e w3 ⟨rfl, hb3⟩
  replace hg := hg.step hb3
  clear hb1 hb2 hb3
  go_wp2
  go_loopw [49] (fun i wr => ∃ k : Nat, k ≤ xs.length ∧ i = .int .i64 k ∧ findS p wanted n (xs.drop k) = findS p wanted n xs ∧ GS w wr) (fun i _ => xs.length - (intOf i).toNat)
  case atStart => exact ⟨0, Nat.zero_le _, rfl, rfl, hg⟩
  case round =>
    clear hg
    obtain ⟨k, hk, rfl, hf, hg⟩ := hrel
    have HF := Lib.hid hf
    clear hf
    by_cases hlt : k < xs.length
    · obtain ⟨b0, off, rfl, hb0, hcells⟩ := HC.out (by omega)
      obtain ⟨x, hxk⟩ := get_some hlt
      have hcx : wr.cell? ⟨b0, off + k, none⟩ = some (.string x) := (hg.bel.cell (p := ⟨b0, off + k, none⟩) hb0).trans (hcells k x hxk)
      have hxs := HX.out x (List.mem_of_getElem? hxk)
      have HXK := Lib.hid hxk
      clear hcells hxk
      go_wp2
      go_loopw [54] (fun i wr => ∃ u : Nat, u ≤ n ∧ i = .int .i64 u ∧ (∀ j, j < u → hitB p wanted x j = false) ∧ GS w wr) (fun i _ => n - (intOf i).toNat)
      case atStart => exact ⟨0, Nat.zero_le _, rfl, fun j hj => by omega, hg⟩
      case round =>
        clear hg
        obtain ⟨u, hu, rfl, hno, hg⟩ := hrel
        have HN := Lib.hid hno
        clear hno hcx
        by_cases hun : u < n
        · have hsl : ∀ W, Ok W → Calls Tryd.prog 36 #[.agg #[.int .i64 p, .int .i64 u, .string x]] W fun e w' => e = .returned (.int .u64 (fnv (textL p u x.data.toList))) ∧ Below W.heap.size W w' := fun W hW => seal_any p u x hp0 (by omega) (by omega) (by omega) hxs W hW
          have HSL := Lib.hid hsl
          clear hsl
          cases hh : hitB p wanted x u with
          | true =>
            have hq : fnv (textL p u x.data.toList) = (wanted : Int) := by unfold hitB at hh; simpa using hh
            have HH := Lib.hid hh; have HQ := Lib.hid hq
            clear hh hq
            have hres : r = ((p, (u : Int), x), 0) := by
              rw [HR.out, findS_hit HXK.out HF.out (find_range_some hun HH.out HN.out)]
            have HRes := Lib.hid hres
            clear hres
            go_wp2_with fail
            have hb4 : Below wr.heap.size wr (wr.alloc (Obj.cells #[.int .i64 p, .int .i64 u, .string x] 23)) := (Below.refl _ _).alloc (Nat.le_refl _) _
            refine (HSL.out _ (hg.ok.below hb4)).mono ?_
            rw [HQ.out]
            rintro e w5 ⟨rfl, hb5⟩
            have hg4 := hg.step hb4
            have hg5 := hg4.step hb5
            have hbx : w5.heap[wr.heap.size]? = some (.cells #[.int .i64 p, .int .i64 u, .string x] 23 (0, 0)) := (hb5.block _ (by simp)).trans (World.alloc_heap_new wr _)
            have HBX := Lib.hid hbx
            clear hbx
            go_wp2_with (first
              | (refine wpList_load_row rfl 23 (.tmp 15) rfl wr.heap.size rfl 23 #[.int .i64 p, .int .i64 u, .string x] (0, 0) _ HBX.out Tryd.underlying23 rfl infoBox ?_)
              | (refine wpList_store_row rfl 23 (.tmp 8) (.tmp 65) rfl w.heap.size #[.int .i64 p, .int .i64 u, .string x] rfl rfl 23 _ hg5.blk infoBox rfl (box_one _ _ _) ?_))
            rw [HRes.out]
            exact bodyPost_ret (results_row_slot rfl rfl (hg5.load _ _ _)) rfl (And.intro rfl (hg5.fin _))
          | false =>
            have hq : (fnv (textL p u x.data.toList) == (wanted : Int)) = false := by unfold hitB at hh; simpa using hh
            have HH := Lib.hid hh
            clear hh
            have hstep : ∀ j, j < u + 1 → hitB p wanted x j = false := fun j hj => by
              by_cases e : j = u
              · rw [e]; exact HH.out
              · exact HN.out j (by omega)
            have HST := Lib.hid hstep
            clear hstep
            generalize fnv (textL p u x.data.toList) = F at HSL hq
            go_wp2_with fail
            have hb4 : Below wr.heap.size wr (wr.alloc (Obj.cells #[.int .i64 p, .int .i64 u, .string x] 23)) := (Below.refl _ _).alloc (Nat.le_refl _) _
            refine (HSL.out _ (hg.ok.below hb4)).mono ?_
            rintro e w5 ⟨rfl, hb5⟩
            have hg5 := (hg.step hb4).step hb5
            go_wp2
            go_roundw
            case rel => exact ⟨u + 1, by omega, by go_num, HST.out, hg5⟩
            case measure => simp [intOf]; omega
        · obtain rfl : u = n := by omega
          go_wp2
          go_roundw
          case rel => exact ⟨k + 1, by omega, by go_num, findS_drop HXK.out HF.out (find_range_none HN.out), hg⟩
          case measure => simp [intOf]; omega
    · obtain rfl : k = xs.length := by omega
      have hf := HF.out
      rw [List.drop_length] at hf
      have hres : r = ((0, 0, ⟨#[]⟩), 7) := by rw [HR.out, ← hf]; rfl
      have HRes := Lib.hid hres
      clear hf hres
      go_wp2_with (refine wpList_store_row rfl 23 (.tmp 8) (.tmp 68) rfl w.heap.size #[.int .i64 0, .int .i64 0, .string ⟨#[]⟩] rfl rfl 23 _ hg.blk infoBox rfl (box_one _ _ _) ?_)
      rw [HRes.out]
      exact bodyPost_ret (results_row_slot rfl rfl (hg.load _ _ _)) rfl (And.intro rfl (hg.fin _))
theorem guess_any (hash : ByteArray) (p below : Int) (v : Value) (xs : List ByteArray) (w : World) (hw : Ok w) (hs : hash.size ≤ 140737488351232) (hv : Sl Value.string w v xs) (hl : xs.length ≤ 1000000) (hx : ∀ x ∈ xs, x.size ≤ 1000) :
    Calls Tryd.prog 32 #[.string hash, .int .i64 p, .int .i64 below, v] w (GuessP w (guessR hash p below xs)) := by
  have hx' : ∀ x ∈ xs, x.size ≤ 140737488351232 := fun x h => Nat.le_trans (hx x h) (by decide)
  unfold guessR
  cases h : hashB hash.data.toList with
  | false => rw [if_pos rfl]; exact guess_4 hash p below v w hw hs h
  | true =>
    rw [if_neg (by simp)]
    by_cases h1 : 1 ≤ p ∧ p ≤ 30
    · by_cases h2 : 1 ≤ below ∧ below ≤ 1000000000
      · rw [if_neg (by simp [h1, h2])]
        cases h3 : xs.any badB with
        | true => rw [if_pos rfl]; exact guess_2 hash p below v xs w hw hs hv hl hx' h h1 h2 h3
        | false =>
          rw [if_neg (by simp)]
          by_cases h4 : 100000 < (xs.length : Int) * below
          · rw [if_pos h4]; exact guess_8 hash p below v xs w hw hs hv hl hx' h h1 h2 h3 h4
          · rw [if_neg h4]; exact guess_go hash p below v xs w hw hs hv hl hx h h1 h2 h3 (by omega) _ rfl
      · rw [if_pos (.inr h2)]; exact guess_3b hash p below v w hw hs h h1 h2
    · rw [if_pos (.inl h1)]; exact guess_3a hash p below v w hw hs h h1
end Go.Proofs.YtcmpindjgfojaaaDoor
