/-
The walk of the law that arguments are set, and shifted.
-/
import Derived.Test.YtcpafdcghlpabaaGreatDoorBu10
import Derived.Laws.AppendOwnNone
set_option linter.unusedVariables false
set_option linter.unusedSimpArgs false
namespace Go.Proofs.YtcpafdcghlpabaaGreatDoor.Bu
open Go.RowKit Go.Shelf Go.Proofs.YtcpafdcghlpabaaGreatDoor.Ar

def sSet : Str := [115, 101, 116]
def sShift : Str := [115, 104, 105, 102, 116]
/-- A machine that has arguments alone. -/
@[reducible] def argS (A : Option Addr) (n c : Nat) (st : Int) : Sta := { zeroS with args := ⟨A, n, c⟩, status := st }
theorem cons2_map (xs : List Str) : [Value.string ⟨#[115, 101, 116]⟩, Value.string ⟨#[45, 45]⟩] ++ (xs.map fun l => Value.string (st l)) = (sSet :: dashes :: xs).map fun l => Value.string (st l) := rfl
theorem own_set {w : World} {base n : Nat} {e : TypeId} {v : Value} {xs : List Str} (h : w.ownsRow base e 1 v (2 + n) ([Value.string ⟨#[115, 101, 116]⟩, Value.string ⟨#[45, 45]⟩] ++ (xs.map fun l => Value.string (st l)))) (hs : ∀ x ∈ sSet :: dashes :: xs, x.length ≤ 140737488351232) : ∃ A c, v = .slice A (2 + n) c ∧ 2 + n ≤ c ∧ IsL w A (sSet :: dashes :: xs) := by
  rw [cons2_map] at h
  obtain ⟨A, c, h1, h2, _, h4⟩ := own_isL h hs
  exact ⟨A, c, h1, h2, h4⟩

/-- These arguments do not lie in block g. -/
def OffL (g : Nat) (A : Option Addr) (ys : List Str) : Prop := ys ≠ [] → ∀ a, A = some a → a.block ≠ g
theorem IsL.off {w w' : World} {g : Nat} {A : Option Addr} {ys : List Str} (h : IsL w A ys) (ho : OffL g A ys) (hs : w.heap.size ≤ w'.heap.size) (hk : ∀ k, k < w.heap.size → k ≠ g → w'.heap[k]? = w.heap[k]?) : IsL w' A ys :=
  ⟨fun j hj => by
    obtain ⟨b, o, e, hlt, hc⟩ := h.cell j hj
    have hne : ys ≠ [] := by intro e0; subst e0; simp at hj
    refine ⟨b, o, e, Nat.lt_of_lt_of_le hlt hs, ?_⟩
    rw [World.cell?_of_block (w := w) (hk b hlt (ho hne _ e))]
    exact hc, h.short⟩
theorem OffL.of_lt {w : World} {g : Nat} {A : Option Addr} {ys : List Str} (h : IsL w A ys) (hg : w.heap.size ≤ g) : OffL g A ys := fun hne a ha => by
  obtain ⟨b, o, e, hlt, _⟩ := h.cell 0 (List.length_pos_iff.2 hne)
  rw [ha] at e
  injection e with e
  subst e
  show b ≠ g
  omega
theorem OffL.of_high {g base : Nat} {A : Option Addr} {ys : List Str} (h : High base A) (hg : g < base) : OffL g A ys := fun _ a ha => by have := h a ha; omega
theorem drop_nil {xs : List Str} {j n : Nat} (h : ([] : List Str) = xs.drop j) (hn : xs.length = n) : (n : Int) ≤ j := by
  have h1 : (xs.drop j).length = 0 := by rw [← h]; rfl
  simp at h1; omega
theorem drop_nil2 {xs : List Str} {j : Nat} (h : ([] : List Str) = xs.drop j) : ([] : List Str) = xs.drop (j + 1) := by
  have h2 := congrArg List.tail h
  rw [List.tail_drop] at h2
  exact h2
theorem drop_cons {xs : List Str} {y : Str} {r : List Str} {j n : Nat} (h : y :: r = xs.drop j) (hn : xs.length = n) : (j : Int) < n ∧ r = xs.drop (j + 1) := by
  have h1 : (xs.drop j).length = r.length + 1 := by rw [← h]; rfl
  simp at h1
  refine ⟨by omega, ?_⟩
  have h2 := congrArg List.tail h
  rw [List.tail_drop] at h2
  exact h2
theorem below_alloc1 (w : World) (o : Obj) : Below w.heap.size w (w.alloc o) := (Below.refl _ _).alloc (Nat.le_refl _) _
theorem IsSt.alloc {w : World} {g : Nat} {s : Sta} (h : IsSt w g s) (o : Obj) : IsSt (w.alloc o) g s := h.keep (below_alloc1 w o)
theorem size_setRow_le (w : World) (g : Nat) (cs : Array Value) : w.heap.size ≤ (w.setRow g cs).heap.size := by simp
theorem shift_one (w : World) : IsL (w.alloc (.cells #[.string ⟨#[115, 104, 105, 102, 116]⟩] 9)) (some ⟨w.heap.size, 0, none⟩) [sShift] := isL_own w [sShift] 9 (by decide)

theorem run_set2 (xs : List Str) (A : Option Addr) (n c : Nat) (w0 w : World) (hG : Gb w0) (hL : IsL w0 A (sSet :: dashes :: xs)) (hb : Below w0.heap.size w0 w) (hn : xs.length = n) (hc : 2 + n ≤ c) (hbig : n ≤ 1000) :
    Calls Tryz.prog 9 #[zeroS.val, .slice A (2 + n) c] w (RunSet zeroS xs n w) := by
  have h := run_set zeroS (dashes :: xs) A (1 + n) c w0 w hG hL hb (by simp; omega) (by omega) (by omega)
  rw [show setZ (dashes :: xs) = xs from by show (if (dashes == dashes) = true then xs else dashes :: xs) = xs; simp, hn, show 1 + n + 1 = 2 + n by omega] at h
  exact h

set_option maxHeartbeats 3200000 in
set_option maxRecDepth 100000 in
theorem shift_c1 (W : World) (hG : Gb W) (xs : List Str) (A : Addr) (n c k : Nat) (hn : xs.length = n) (hc : n ≤ c) (h30 : n ≤ 30) (hk : k ≤ 40) (hL : IsL W (some A) xs) :
    Calls Tryz.prog 4 #[.slice (some A) n c, .int .i64 k] W fun e w' => e = .returned (.bool true) ∧ Below W.heap.size W w' := by
  have d0 : decide ((30 : Int) < (n : Int)) = false := by simp; omega
  have d1 : decide ((k : Int) < 0) = false := by simp
  have d2 : decide ((40 : Int) < (k : Int)) = false := by simp; omega
  have hmax : 2 + n ≤ maxLen := by unfold maxLen; omega
  have hby : (2 + n) * 16 ≤ 140737488355328 := by omega
  have hbs : ∀ x ∈ sSet :: dashes :: xs, x.length ≤ 140737488351232 := by
    intro x hx
    rcases List.mem_cons.1 hx with rfl | hx
    · decide
    · rcases List.mem_cons.1 hx with rfl | hx
      · decide
      · obtain ⟨j, hj, rfl⟩ := List.getElem_of_mem hx
        exact hL.short j hj
  have C1 : Hid (∀ w', Below W.heap.size W w' → ∀ j u, (xs.map fun l => Value.string (st l))[j]? = some u → w'.cell? (A.add j) = some u) := fun w' h j u hu => by
    have hj : j < xs.length := by
      rcases Nat.lt_or_ge j xs.length with h1 | h1
      · exact h1
      · exact absurd (hu.symm.trans (List.getElem?_eq_none (by simpa using h1))) (by simp)
    obtain ⟨b, o, e, _⟩ := hL.cell j hj
    obtain rfl : A = ⟨b, o, none⟩ := by simpa using e
    exact hL.src h j u hu
  have C2 := Lib.hid (one_map xs)
  have CL : Hid ((xs.map fun l => Value.string (st l)).length = n * 1) := by show _ = _; simp [hn]
  obtain ⟨i0, hi, hz0, hz1, hz2⟩ := info_parts infoStr
  have hrun := fun (w3 : World) (hb : Below W.heap.size W w3) A' c' (hc' : 2 + n ≤ c') (hL' : IsL w3 A' (sSet :: dashes :: xs)) => run_set2 xs A' n c' w3 w3 (hG.mono hb) hL' (Below.refl _ _) hn hc' (by omega)
  have hk1 := fun w1 h => known_c W w1 hG h
  have HRUN := Lib.hid hrun; have HK := Lib.hid hk1; have HN := Lib.hid hn; have HBS := Lib.hid hbs; have HG := Lib.hid hG
  clear hrun hk1 hG hL hn hbs
  go_enter Tryz.func4, Tryz.ntmps4
  go_wp2_with (first
    | (at_builtin; refine wpList_append_own _ rfl _ _ 22 rfl W.heap.size 9 i0 (.string ⟨#[]⟩) 1 16 Tryz.underlying22 hi hz0 hz1 hz2 rfl (by decide) _ 2 [.string ⟨#[115, 101, 116]⟩, .string ⟨#[45, 45]⟩] rfl ⟨rfl, .inr ⟨W.heap.size, 2, #[.string ⟨#[115, 101, 116]⟩, .string ⟨#[45, 45]⟩], rfl, Nat.le_refl _, blk_new W _, Nat.le_refl _, by decide, rfl, rfl⟩⟩ A n c (xs.map fun l => Value.string (st l)) rfl CL.out (C1.out _ ((Below.refl _ _).alloc (Nat.le_refl _) _)) C2.out hmax hby (size_alloc_le _ _) ?_; intro v' w3 hown hgrow _; have HB3 := Lib.hid (grown_from (Below.refl _ _) hgrow); have HO3 := Lib.hid hown; clear hown hgrow; obtain ⟨A', c', rfl, hc', hL'⟩ := own_set HO3.out HBS.out; have HC3 := Lib.hid hc'; have HL3 := Lib.hid hL'; clear hc' hL')
    | (go_at_call 9; refine (HRUN.out _ HB3.out _ _ HC3.out HL3.out).mono ?_; rintro e w4 ⟨A4, c4, rfl, hc4, hL4, hh4, hb4⟩; have HB4 := Lib.hid (HB3.out.trans (hb4.mono HB3.out.size)); have HL4 := Lib.hid hL4; have HC4 := Lib.hid hc4; clear hb4 hL4 hc4 hh4)
    | (refine wpList_store_row rfl 39 _ _ rfl w4.heap.size _ rfl rfl 39 _ (blk_new w4 _) sta_size rfl (sta_one (argS A4 n c4 0)) ?_; generalize hW : World.setRow _ _ _ = W5; have hs : IsSt W5 w4.heap.size (argS A4 n c4 0) := (by rw [← hW]; exact IsSt.row (s := zeroS) (blk_new w4 _) _ rfl); have HB5 : Hid (Below W.heap.size W W5) := (by rw [← hW]; exact below_setRow (HB4.out.alloc HB4.out.size _) HB4.out.size _); have HB45 : Hid (Below w4.heap.size w4 W5) := (by rw [← hW]; exact below_setRow ((Below.refl _ _).alloc (Nat.le_refl _) _) (Nat.le_refl _) _); clear hW; have HS5 := Lib.hid hs; clear hs)
    | (refine wpList_load_row rfl 39 _ rfl w4.heap.size rfl 39 _ (0, 0) _ HS5.out Tryz.underlying39 rfl sta_size ?_)
    | (refine wpList_store_row rfl 39 _ _ rfl W5.heap.size _ rfl rfl 39 _ (blk_new W5 _) sta_size rfl (sta_one (argS A4 n c4 0)) ?_; generalize hW : World.setRow _ _ _ = W8; have hs : IsSt W8 W5.heap.size (argS A4 n c4 0) := (by rw [← hW]; exact IsSt.row (s := zeroS) (blk_new W5 _) _ rfl); have HB58 : Hid (Below W5.heap.size W5 W8) := (by rw [← hW]; exact below_setRow ((Below.refl _ _).alloc (Nat.le_refl _) _) (Nat.le_refl _) _); clear hW; have HS8 := Lib.hid hs; clear hs))
  have hg58 : w4.heap.size < W5.heap.size := HS5.out.lt
  have hgW : W.heap.size ≤ w4.heap.size := HB4.out.size
  have HL8 : Hid (IsL W8 A4 xs) := (HL4.out.keep HB45.out).keep HB58.out
  have HO8 : Hid (OffL W5.heap.size A4 xs) := OffL.of_lt (HL4.out.keep HB45.out) (Nat.le_refl _)
  have H58 := Lib.hid (HS5.out.keep HB58.out)
  have HB8 := Lib.hid (HB5.out.trans (HB58.out.mono HB5.out.size))
  go_loopw [9, 10, 11, 12] (fun i _ _ _ wr => ∃ j : Nat, j ≤ k ∧ i = .int .i64 j ∧ Hid (IsSt wr w4.heap.size (argS A4 n c4 0)) ∧ ∃ (ys : List Str) (L : Nat) (AX : Option Addr) (cX : Nat) (sx : Int), Hid (IsSt wr W5.heap.size (argS AX L cX sx)) ∧ Hid (ys = xs.drop j) ∧ Hid (ys.length = L) ∧ Hid (IsL wr AX ys) ∧ Hid (OffL W5.heap.size AX ys) ∧ Hid (L ≤ cX) ∧ Hid (Below W.heap.size W wr)) (fun i _ _ _ _ => k - (intOf i).toNat)
  case atStart => exact ⟨0, Nat.zero_le _, rfl, H58, xs, n, A4, c4, 0, HS8, rfl, HN, HL8, HO8, HC4, HB8⟩
  case round =>
    obtain ⟨j, hj, rfl, H5, ys, L, AX, cX, sx, HX, HY, HLn, HLx, HOx, HCx, HBw⟩ := hrel
    by_cases hlt : j < k
    · rcases ys with _ | ⟨y, r⟩
      · obtain rfl : L = 0 := HLn.out.symm
        have hrs := run_shift_0 (argS AX 0 cX sx) _ AX cX _ _ rfl (HG.out.mono (HBw.out.alloc HBw.out.size _)) (shift_one wr) (Below.refl _ _)
        have HR := Lib.hid hrs; clear hrs
        have hjn : (n : Int) ≤ j := drop_nil HY.out HN.out
        go_wp2_with (first
          | (refine wpList_load_row rfl 39 _ rfl W5.heap.size rfl 39 _ (0, 0) _ HX.out Tryz.underlying39 rfl sta_size ?_)
          | (go_at_call 9; refine (HR.out).mono ?_; rintro e w2 ⟨rfl, hb2⟩; have HBa := Lib.hid (HBw.out.trans ((below_alloc1 _ _).trans (hb2.mono (size_alloc_le _ _)) |>.mono HBw.out.size)); have H5a := Lib.hid ((H5.out.alloc _).keep hb2); have HXa := Lib.hid ((HX.out.alloc _).keep hb2); clear hb2)
          | (refine wpList_store_row rfl 39 _ _ rfl w2.heap.size _ rfl rfl 39 _ (blk_new w2 _) sta_size rfl (sta_one (argS AX 0 cX 1)) ?_; generalize hW : World.setRow _ _ _ = Wa; have hs : IsSt Wa w2.heap.size (argS AX 0 cX 1) := (by rw [← hW]; exact IsSt.row (s := zeroS) (blk_new w2 _) _ rfl); have HBb : Hid (Below w2.heap.size w2 Wa) := (by rw [← hW]; exact below_setRow ((Below.refl _ _).alloc (Nat.le_refl _) _) (Nat.le_refl _) _); clear hW; have k4 := hs.cells.2.2.2.2.1; have HSa := Lib.hid hs; clear hs; have H5b := Lib.hid (H5a.out.keep HBb.out); have HXb := Lib.hid (HXa.out.keep HBb.out))
          | (refine wpList_load_row rfl 39 _ rfl w2.heap.size rfl 39 _ (0, 0) _ HSa.out Tryz.underlying39 rfl sta_size ?_)
          | (refine wpList_store_row rfl 39 _ _ rfl W5.heap.size _ rfl rfl 39 _ HXb.out sta_size rfl (sta_one (argS AX 0 cX 1)) ?_))
        go_roundw
        case rel =>
          exact ⟨j + 1, by omega, by go_num, H5b.out.other _ (by omega), [], 0, AX, cX, 1, HXb.out.row (s' := argS AX 0 cX 1) _ rfl, drop_nil2 HY.out, rfl, IsL.nil _ _, fun h => absurd rfl h, Nat.zero_le _, below_setRow (HBa.out.trans (HBb.out.mono HBa.out.size)) (by omega) _⟩
        case measure => simp [intOf]; omega
      · obtain ⟨m, rfl⟩ : ∃ m, L = m + 1 := ⟨r.length, by have := HLn.out; simpa using this.symm⟩
        have hrs := run_shift_1 (argS AX (m + 1) cX sx) _ AX y r m cX _ _ rfl (HG.out.mono (HBw.out.alloc HBw.out.size _)) (shift_one wr) (HLx.out.keep ((Below.refl _ _).alloc (Nat.le_refl _) _)) (Below.refl _ _) (by have := HLn.out; simpa using this) HCx.out (by have := HLn.out; have h1 := congrArg List.length HY.out; have h2 := HN.out; simp at this h1; omega)
        have HR := Lib.hid hrs; clear hrs
        have hjn : (j : Int) < n := (drop_cons HY.out HN.out).1
        go_wp2_with (first
          | (refine wpList_load_row rfl 39 _ rfl W5.heap.size rfl 39 _ (0, 0) _ HX.out Tryz.underlying39 rfl sta_size ?_)
          | (go_at_call 9; refine (HR.out).mono ?_; rintro e w2 ⟨A2, c2, rfl, hc2, hL2, hh2, hb2⟩; have HL2 := Lib.hid hL2; have HC2 := Lib.hid hc2; have HH2 := Lib.hid hh2; clear hL2 hc2 hh2; have HBa := Lib.hid (HBw.out.trans ((below_alloc1 _ _).trans (hb2.mono (size_alloc_le _ _)) |>.mono HBw.out.size)); have H5a := Lib.hid ((H5.out.alloc _).keep hb2); have HXa := Lib.hid ((HX.out.alloc _).keep hb2); clear hb2)
          | (refine wpList_store_row rfl 39 _ _ rfl w2.heap.size _ rfl rfl 39 _ (blk_new w2 _) sta_size rfl (sta_one (argS A2 m c2 0)) ?_; generalize hW : World.setRow _ _ _ = Wa; have hs : IsSt Wa w2.heap.size (argS A2 m c2 0) := (by rw [← hW]; exact IsSt.row (s := zeroS) (blk_new w2 _) _ rfl); have HBb : Hid (Below w2.heap.size w2 Wa) := (by rw [← hW]; exact below_setRow ((Below.refl _ _).alloc (Nat.le_refl _) _) (Nat.le_refl _) _); clear hW; have k4 := hs.cells.2.2.2.2.1; have HSa := Lib.hid hs; clear hs; have H5b := Lib.hid (H5a.out.keep HBb.out); have HXb := Lib.hid (HXa.out.keep HBb.out))
          | (refine wpList_load_row rfl 39 _ rfl w2.heap.size rfl 39 _ (0, 0) _ HSa.out Tryz.underlying39 rfl sta_size ?_)
          | (refine wpList_store_row rfl 39 _ _ rfl W5.heap.size _ rfl rfl 39 _ HXb.out sta_size rfl (sta_one (argS A2 m c2 0)) ?_))
        have hlt5 := HX.out.lt
        go_roundw
        case rel =>
          refine ⟨j + 1, by omega, by go_num, H5b.out.other _ (by omega), r, m, A2, c2, 0, HXb.out.row (s' := argS A2 m c2 0) _ rfl, (drop_cons HY.out HN.out).2, by have := HLn.out; show _ = _; simpa using this, ?_, ?_, HC2.out, below_setRow (HBa.out.trans (HBb.out.mono HBa.out.size)) (by omega) _⟩
          · exact IsL.off (HL2.out.keep HBb.out) (OffL.of_high HH2.out (by simp; omega)) (size_setRow_le _ _ _) (fun k hk hne => setRow_other _ _ _ _ hne)
          · exact OffL.of_high HH2.out (by simp; omega)
        case measure => simp [intOf]; omega
    · obtain rfl : j = k := by omega
      have hL0 : (L : Int) = max ((n : Int) - j) 0 := by
        have h1 := HLn.out; rw [HY.out] at h1; have h2 := HN.out; simp at h1; omega
      have HLm := Lib.hid hL0; clear hL0
      have k5 := H5.out.cells.2.1
      have kx := HX.out.cells.2.1
      go_wp2_with (go_at_call 8; refine (HK.out _ HBw.out).mono ?_; rintro e w9 ⟨rfl, hb9⟩; have HB9 := Lib.hid (HBw.out.trans (hb9.mono HBw.out.size)); clear hb9)
      go_ret
      exact ⟨rfl, HB9.out⟩
set_option maxHeartbeats 3200000 in
set_option maxRecDepth 100000 in
theorem shift_c0 (W : World) (hG : Gb W) (xs : List Str) (n c k : Nat) (hn : xs.length = n) (hn0 : n = 0) (hc0 : c = 0) (h30 : n ≤ 30) (hk : k ≤ 40) :
    Calls Tryz.prog 4 #[.slice none n c, .int .i64 k] W fun e w' => e = .returned (.bool true) ∧ Below W.heap.size W w' := by
  have d0 : decide ((30 : Int) < (n : Int)) = false := by simp; omega
  have d1 : decide ((k : Int) < 0) = false := by simp
  have d2 : decide ((40 : Int) < (k : Int)) = false := by simp; omega
  obtain ⟨i0, hi, hz0, hz1, hz2⟩ := info_parts infoStr
  have hrun : ∀ w3, Below W.heap.size W w3 → ∀ A' c', 2 ≤ c' → IsL w3 A' (sSet :: dashes :: xs) → Calls Tryz.prog 9 #[zeroS.val, .slice A' 2 c'] w3 (RunSet zeroS xs n w3) := fun w3 hb A' c' hc' hL' => by
    subst hn0
    exact run_set2 xs A' 0 c' w3 w3 (hG.mono hb) hL' (Below.refl _ _) hn hc' (by omega)
  have hk1 := fun w1 h => known_c W w1 hG h
  have HL3 : Hid (IsL (W.alloc (.cells #[.string ⟨#[115, 101, 116]⟩, .string ⟨#[45, 45]⟩] 9)) (some ⟨W.heap.size, 0, none⟩) (sSet :: dashes :: xs)) := by
    rw [List.eq_nil_of_length_eq_zero (hn.trans hn0)]
    exact isL_own W [sSet, dashes] 9 (by decide)
  have HRUN := Lib.hid hrun; have HK := Lib.hid hk1; have HN := Lib.hid hn; have HG := Lib.hid hG
  have N0 := Lib.hid hn0; have C0 := Lib.hid hc0
  clear hrun hk1 hG hn hn0 hc0
  go_enter Tryz.func4, Tryz.ntmps4
  go_wp2_with (first
    | (at_builtin; refine wpList_append_own_none rfl _ _ 22 rfl W.heap.size 9 i0 1 Tryz.underlying22 hi _ 2 [.string ⟨#[115, 101, 116]⟩, .string ⟨#[45, 45]⟩] rfl ⟨rfl, .inr ⟨W.heap.size, 2, #[.string ⟨#[115, 101, 116]⟩, .string ⟨#[45, 45]⟩], rfl, Nat.le_refl _, blk_new W _, Nat.le_refl _, by decide, rfl, rfl⟩⟩ (show Value.slice none n c = _ by rw [N0.out, C0.out]) ?_)
    | (go_at_call 9; refine (HRUN.out _ (below_alloc1 W _) (some ⟨W.heap.size, 0, none⟩) 2 (Nat.le_refl _) HL3.out).mono ?_; rintro e w4 ⟨A4, c4, rfl, hc4, hL4, hh4, hb4⟩; have HB4 := Lib.hid ((below_alloc1 W _).trans (hb4.mono (below_alloc1 W _).size)); have HL4 := Lib.hid hL4; have HC4 := Lib.hid hc4; clear hb4 hL4 hc4 hh4)
    | (refine wpList_store_row rfl 39 _ _ rfl w4.heap.size _ rfl rfl 39 _ (blk_new w4 _) sta_size rfl (sta_one (argS A4 n c4 0)) ?_; generalize hW : World.setRow _ _ _ = W5; have hs : IsSt W5 w4.heap.size (argS A4 n c4 0) := (by rw [← hW]; exact IsSt.row (s := zeroS) (blk_new w4 _) _ rfl); have HB5 : Hid (Below W.heap.size W W5) := (by rw [← hW]; exact below_setRow (HB4.out.alloc HB4.out.size _) HB4.out.size _); have HB45 : Hid (Below w4.heap.size w4 W5) := (by rw [← hW]; exact below_setRow ((Below.refl _ _).alloc (Nat.le_refl _) _) (Nat.le_refl _) _); clear hW; have HS5 := Lib.hid hs; clear hs)
    | (refine wpList_load_row rfl 39 _ rfl w4.heap.size rfl 39 _ (0, 0) _ HS5.out Tryz.underlying39 rfl sta_size ?_)
    | (refine wpList_store_row rfl 39 _ _ rfl W5.heap.size _ rfl rfl 39 _ (blk_new W5 _) sta_size rfl (sta_one (argS A4 n c4 0)) ?_; generalize hW : World.setRow _ _ _ = W8; have hs : IsSt W8 W5.heap.size (argS A4 n c4 0) := (by rw [← hW]; exact IsSt.row (s := zeroS) (blk_new W5 _) _ rfl); have HB58 : Hid (Below W5.heap.size W5 W8) := (by rw [← hW]; exact below_setRow ((Below.refl _ _).alloc (Nat.le_refl _) _) (Nat.le_refl _) _); clear hW; have HS8 := Lib.hid hs; clear hs))
  have hg58 : w4.heap.size < W5.heap.size := HS5.out.lt
  have hgW : W.heap.size ≤ w4.heap.size := HB4.out.size
  have HL8 : Hid (IsL W8 A4 xs) := (HL4.out.keep HB45.out).keep HB58.out
  have HO8 : Hid (OffL W5.heap.size A4 xs) := OffL.of_lt (HL4.out.keep HB45.out) (Nat.le_refl _)
  have H58 := Lib.hid (HS5.out.keep HB58.out)
  have HB8 := Lib.hid (HB5.out.trans (HB58.out.mono HB5.out.size))
  go_loopw [9, 10, 11, 12] (fun i _ _ _ wr => ∃ j : Nat, j ≤ k ∧ i = .int .i64 j ∧ Hid (IsSt wr w4.heap.size (argS A4 n c4 0)) ∧ ∃ (ys : List Str) (L : Nat) (AX : Option Addr) (cX : Nat) (sx : Int), Hid (IsSt wr W5.heap.size (argS AX L cX sx)) ∧ Hid (ys = xs.drop j) ∧ Hid (ys.length = L) ∧ Hid (IsL wr AX ys) ∧ Hid (OffL W5.heap.size AX ys) ∧ Hid (L ≤ cX) ∧ Hid (Below W.heap.size W wr)) (fun i _ _ _ _ => k - (intOf i).toNat)
  case atStart => exact ⟨0, Nat.zero_le _, rfl, H58, xs, n, A4, c4, 0, HS8, rfl, HN, HL8, HO8, HC4, HB8⟩
  case round =>
    obtain ⟨j, hj, rfl, H5, ys, L, AX, cX, sx, HX, HY, HLn, HLx, HOx, HCx, HBw⟩ := hrel
    by_cases hlt : j < k
    · rcases ys with _ | ⟨y, r⟩
      · obtain rfl : L = 0 := HLn.out.symm
        have hrs := run_shift_0 (argS AX 0 cX sx) _ AX cX _ _ rfl (HG.out.mono (HBw.out.alloc HBw.out.size _)) (shift_one wr) (Below.refl _ _)
        have HR := Lib.hid hrs; clear hrs
        have hjn : (n : Int) ≤ j := drop_nil HY.out HN.out
        go_wp2_with (first
          | (refine wpList_load_row rfl 39 _ rfl W5.heap.size rfl 39 _ (0, 0) _ HX.out Tryz.underlying39 rfl sta_size ?_)
          | (go_at_call 9; refine (HR.out).mono ?_; rintro e w2 ⟨rfl, hb2⟩; have HBa := Lib.hid (HBw.out.trans ((below_alloc1 _ _).trans (hb2.mono (size_alloc_le _ _)) |>.mono HBw.out.size)); have H5a := Lib.hid ((H5.out.alloc _).keep hb2); have HXa := Lib.hid ((HX.out.alloc _).keep hb2); clear hb2)
          | (refine wpList_store_row rfl 39 _ _ rfl w2.heap.size _ rfl rfl 39 _ (blk_new w2 _) sta_size rfl (sta_one (argS AX 0 cX 1)) ?_; generalize hW : World.setRow _ _ _ = Wa; have hs : IsSt Wa w2.heap.size (argS AX 0 cX 1) := (by rw [← hW]; exact IsSt.row (s := zeroS) (blk_new w2 _) _ rfl); have HBb : Hid (Below w2.heap.size w2 Wa) := (by rw [← hW]; exact below_setRow ((Below.refl _ _).alloc (Nat.le_refl _) _) (Nat.le_refl _) _); clear hW; have k4 := hs.cells.2.2.2.2.1; have HSa := Lib.hid hs; clear hs; have H5b := Lib.hid (H5a.out.keep HBb.out); have HXb := Lib.hid (HXa.out.keep HBb.out))
          | (refine wpList_load_row rfl 39 _ rfl w2.heap.size rfl 39 _ (0, 0) _ HSa.out Tryz.underlying39 rfl sta_size ?_)
          | (refine wpList_store_row rfl 39 _ _ rfl W5.heap.size _ rfl rfl 39 _ HXb.out sta_size rfl (sta_one (argS AX 0 cX 1)) ?_))
        go_roundw
        case rel =>
          exact ⟨j + 1, by omega, by go_num, H5b.out.other _ (by omega), [], 0, AX, cX, 1, HXb.out.row (s' := argS AX 0 cX 1) _ rfl, drop_nil2 HY.out, rfl, IsL.nil _ _, fun h => absurd rfl h, Nat.zero_le _, below_setRow (HBa.out.trans (HBb.out.mono HBa.out.size)) (by omega) _⟩
        case measure => simp [intOf]; omega
      · obtain ⟨m, rfl⟩ : ∃ m, L = m + 1 := ⟨r.length, by have := HLn.out; simpa using this.symm⟩
        have hrs := run_shift_1 (argS AX (m + 1) cX sx) _ AX y r m cX _ _ rfl (HG.out.mono (HBw.out.alloc HBw.out.size _)) (shift_one wr) (HLx.out.keep ((Below.refl _ _).alloc (Nat.le_refl _) _)) (Below.refl _ _) (by have := HLn.out; simpa using this) HCx.out (by have := HLn.out; have h1 := congrArg List.length HY.out; have h2 := HN.out; simp at this h1; omega)
        have HR := Lib.hid hrs; clear hrs
        have hjn : (j : Int) < n := (drop_cons HY.out HN.out).1
        go_wp2_with (first
          | (refine wpList_load_row rfl 39 _ rfl W5.heap.size rfl 39 _ (0, 0) _ HX.out Tryz.underlying39 rfl sta_size ?_)
          | (go_at_call 9; refine (HR.out).mono ?_; rintro e w2 ⟨A2, c2, rfl, hc2, hL2, hh2, hb2⟩; have HL2 := Lib.hid hL2; have HC2 := Lib.hid hc2; have HH2 := Lib.hid hh2; clear hL2 hc2 hh2; have HBa := Lib.hid (HBw.out.trans ((below_alloc1 _ _).trans (hb2.mono (size_alloc_le _ _)) |>.mono HBw.out.size)); have H5a := Lib.hid ((H5.out.alloc _).keep hb2); have HXa := Lib.hid ((HX.out.alloc _).keep hb2); clear hb2)
          | (refine wpList_store_row rfl 39 _ _ rfl w2.heap.size _ rfl rfl 39 _ (blk_new w2 _) sta_size rfl (sta_one (argS A2 m c2 0)) ?_; generalize hW : World.setRow _ _ _ = Wa; have hs : IsSt Wa w2.heap.size (argS A2 m c2 0) := (by rw [← hW]; exact IsSt.row (s := zeroS) (blk_new w2 _) _ rfl); have HBb : Hid (Below w2.heap.size w2 Wa) := (by rw [← hW]; exact below_setRow ((Below.refl _ _).alloc (Nat.le_refl _) _) (Nat.le_refl _) _); clear hW; have k4 := hs.cells.2.2.2.2.1; have HSa := Lib.hid hs; clear hs; have H5b := Lib.hid (H5a.out.keep HBb.out); have HXb := Lib.hid (HXa.out.keep HBb.out))
          | (refine wpList_load_row rfl 39 _ rfl w2.heap.size rfl 39 _ (0, 0) _ HSa.out Tryz.underlying39 rfl sta_size ?_)
          | (refine wpList_store_row rfl 39 _ _ rfl W5.heap.size _ rfl rfl 39 _ HXb.out sta_size rfl (sta_one (argS A2 m c2 0)) ?_))
        have hlt5 := HX.out.lt
        go_roundw
        case rel =>
          refine ⟨j + 1, by omega, by go_num, H5b.out.other _ (by omega), r, m, A2, c2, 0, HXb.out.row (s' := argS A2 m c2 0) _ rfl, (drop_cons HY.out HN.out).2, by have := HLn.out; show _ = _; simpa using this, ?_, ?_, HC2.out, below_setRow (HBa.out.trans (HBb.out.mono HBa.out.size)) (by omega) _⟩
          · exact IsL.off (HL2.out.keep HBb.out) (OffL.of_high HH2.out (by simp; omega)) (size_setRow_le _ _ _) (fun k hk hne => setRow_other _ _ _ _ hne)
          · exact OffL.of_high HH2.out (by simp; omega)
        case measure => simp [intOf]; omega
    · obtain rfl : j = k := by omega
      have hL0 : (L : Int) = max ((n : Int) - j) 0 := by
        have h1 := HLn.out; rw [HY.out] at h1; have h2 := HN.out; simp at h1; omega
      have HLm := Lib.hid hL0; clear hL0
      have k5 := H5.out.cells.2.1
      have kx := HX.out.cells.2.1
      go_wp2_with (go_at_call 8; refine (HK.out _ HBw.out).mono ?_; rintro e w9 ⟨rfl, hb9⟩; have HB9 := Lib.hid (HBw.out.trans (hb9.mono HBw.out.size)); clear hb9)
      go_ret
      exact ⟨rfl, HB9.out⟩
/-- The law, at any arguments. -/
theorem shift_law (W : World) (hG : Gb W) (xs : List Str) (A : Option Addr) (n c : Nat) (k : Int) (hn : xs.length = n) (hc : n ≤ c) (hA : A = none → n = 0 ∧ c = 0) (hc2 : n ≤ 9223372036854775807) (hL : n ≤ 30 → IsL W A xs) :
    Calls Tryz.prog 4 #[.slice A n c, .int .i64 k] W fun e w' => e = .returned (.bool true) ∧ Below W.heap.size W w' := by
  by_cases h30 : 30 < n
  · have d0 : decide ((30 : Int) < (n : Int)) = true := by simp; omega
    go_enter Tryz.func4, Tryz.ntmps4
    go_wp2_with fail
    go_ret
    exact ⟨rfl, Below.refl _ _⟩
  · have d0 : decide ((30 : Int) < (n : Int)) = false := by simp; omega
    by_cases h0 : k < 0
    · go_enter Tryz.func4, Tryz.ntmps4
      go_wp2_with fail
      go_ret
      exact ⟨rfl, Below.refl _ _⟩
    · by_cases h40 : 40 < k
      · go_enter Tryz.func4, Tryz.ntmps4
        go_wp2_with fail
        go_ret
        exact ⟨rfl, Below.refl _ _⟩
      · obtain ⟨m, rfl⟩ : ∃ m : Nat, k = m := ⟨k.toNat, by omega⟩
        rcases A with _ | a
        · obtain ⟨rfl, rfl⟩ := hA rfl
          exact shift_c0 W hG xs 0 0 m hn rfl rfl (by omega) (by omega)
        · exact shift_c1 W hG xs a n c m hn hc (by omega) (by omega) (hL (by omega))
end Go.Proofs.YtcpafdcghlpabaaGreatDoor.Bu
