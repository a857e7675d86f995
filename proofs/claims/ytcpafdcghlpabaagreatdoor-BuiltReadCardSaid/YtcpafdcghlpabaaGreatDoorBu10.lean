/-
The walks of built.Run at set and at shift. (Written by gen_bu10.py.)
-/
import Derived.Test.YtcpafdcghlpabaaGreatDoorBu9
set_option linter.unusedVariables false
set_option linter.unusedSimpArgs false
namespace Go.Proofs.YtcpafdcghlpabaaGreatDoor.Bu
open Go.RowKit Go.Shelf Go.Proofs.YtcpafdcghlpabaaGreatDoor.Ar

theorem alloc2_size (w : World) (X Y : Obj) : ((w.alloc X).alloc Y).heap.size = w.heap.size + 2 := by simp
/-- Run leaves a machine with these arguments. -/
def RunSet (s : Sta) (ys : List Str) (n : Nat) (w : World) (e : Ending) (w' : World) : Prop := ∃ A' c', e = ran { s with args := ⟨A', n, c'⟩, status := 0 } 0 0 ∧ n ≤ c' ∧ IsL w' A' ys ∧ High w.heap.size A' ∧ Below w.heap.size w w'

set_option maxHeartbeats 3200000 in
set_option maxRecDepth 100000 in
theorem run_set (s : Sta) (xs : List Str) (A : Option Addr) (n c : Nat) (w0 w : World) (hG : Gb w0) (hL : IsL w0 A ([115, 101, 116] :: xs)) (hb : Below w0.heap.size w0 w) (hn : xs.length = n) (hc : n + 1 ≤ c) (hbig : n ≤ 10000) :
    Calls Tryz.prog 9 #[s.val, .slice A (n + 1) c] w (RunSet s (setZ xs) (setZ xs).length w) := by
  obtain ⟨b, o, rfl, hlt, hc0⟩ := hL.head
  clear hc0
  have d0 : ∀ w1, Below w0.heap.size w0 w1 → w1.cell? ⟨b, o, none⟩ = some (.string ⟨#[115, 101, 116]⟩) := fun w1 h => hL.read (w := w1) h 0 (by simp)
  have his := fun w1 h => is_c [115, 101, 116] w0 w1 hG h
  rw [show owns.contains [115, 101, 116] = true by decide +kernel] at his
  have hcal : ∀ A' c', n ≤ c' → IsL w0 A' xs → ∀ w1, Below w0.heap.size w0 w1 → Calls Tryz.prog 20 #[s.val, .slice A' n c'] w1 (SetOk s (setZ xs) (setZ xs).length w1) := fun A' c' hc' hL' w1 h => set_c s xs A' n c' w0 w1 hL' h hn hc' hbig
  generalize (setZ xs).length = m at *
  generalize setZ xs = ys at *
  have HCAL := Lib.hid hcal; clear hcal
  have hbw : b < w.heap.size := Nat.lt_of_lt_of_le hlt hb.size
  have k0 := d0 w hb
  have HIS := Lib.hid his; have HD := Lib.hid d0; have H0 := Lib.hid hb
  clear his d0 hb hG hlt
  obtain ⟨hr1, hr2⟩ := hL.rest hn
  have HT1 := Lib.hid hr1; have HT2 := Lib.hid hr2
  clear hL hr1 hr2 hn
  obtain ⟨⟨va, vn, vc⟩, ⟨aa, an, ac⟩, ⟨fa, fn, fc⟩, ⟨la, ln, lc⟩, status, out, ind, inat, tok, ton, toat, pipe, ⟨ra, rn, rc⟩, now, calls, over, ask, cn, ⟨ga, gn, gc⟩, ⟨ka, kn, kc⟩, cin⟩ := s
  have hn0 : ((n : Int) + 1 == 0) = false := by simp; omega
  rcases (show c = 1 ∧ n = 0 ∨ 2 ≤ c by omega) with ⟨rfl, rfl⟩ | hc2
  · have HT := Lib.hid (HT2.out rfl)
    clear HT1 HT2
    go_enter Tryz.func9, Tryz.ntmps9
    go_wp2_with (first
      | (go_at_call 14; refine (HIS.out _ ((H0.out.alloc H0.out.size _).alloc (by have := H0.out.size; simp; omega) _)).mono ?_; rintro e w1 ⟨rfl, hb1⟩; have HW1 := Lib.hid (((H0.out.alloc H0.out.size _).alloc (by have := H0.out.size; simp; omega) _).trans (hb1.mono (by have := H0.out.size; simp; omega))); have k1 := HD.out w1 HW1.out; have HS1 : Hid (IsSt w1 w.heap.size ⟨⟨va, vn, vc⟩, ⟨aa, an, ac⟩, ⟨fa, fn, fc⟩, ⟨la, ln, lc⟩, status, out, ind, inat, tok, ton, toat, pipe, ⟨ra, rn, rc⟩, now, calls, over, ask, cn, ⟨ga, gn, gc⟩, ⟨ka, kn, kc⟩, cin⟩) := own_blk hb1 (blk2 w _ _); have HR1 : Hid (IsSt w1 (w.heap.size + 1) zeroS) := own_blk hb1 (blk3 w _ _); have HX1 := Lib.hid ((((Below.refl w.heap.size w).alloc (Nat.le_refl _) _).alloc (by simp) _).trans (hb1.mono (by simp; omega))); have hz1 := hb1.size; rw [alloc2_size] at hz1; clear hb1)
      | (go_at_call 20; refine (HCAL.out _ _ (by omega) HT.out _ HW1.out).mono ?_; rintro e w2 ⟨A', c', rfl, hc', hL', hh', hb2⟩; have HL2 := Lib.hid hL'; have HC2 := Lib.hid hc'; have HH2 := Lib.hid hh'; clear hL' hc' hh'; have HR2 := Lib.hid (HR1.out.keep hb2); have HX2 := Lib.hid (HX1.out.trans (hb2.mono HX1.out.size)); clear hb2)
      | (refine wpList_load_row rfl 39 _ rfl (w.heap.size) rfl 39 _ (0, 0) _ HS1.out Tryz.underlying39 rfl sta_size ?_)
      | (refine wpList_store_row rfl 39 _ _ rfl (w.heap.size + 1) _ rfl rfl 39 _ HR2.out sta_size rfl (sta_one ⟨⟨va, vn, vc⟩, ⟨A', m, c'⟩, ⟨fa, fn, fc⟩, ⟨la, ln, lc⟩, 0, out, ind, inat, tok, ton, toat, pipe, ⟨ra, rn, rc⟩, now, calls, over, ask, cn, ⟨ga, gn, gc⟩, ⟨ka, kn, kc⟩, cin⟩) ?_))
    refine bodyPost_ret (v := .tuple #[Sta.val ⟨⟨va, vn, vc⟩, ⟨A', m, c'⟩, ⟨fa, fn, fc⟩, ⟨la, ln, lc⟩, 0, out, ind, inat, tok, ton, toat, pipe, ⟨ra, rn, rc⟩, now, calls, over, ask, cn, ⟨ga, gn, gc⟩, ⟨ka, kn, kc⟩, cin⟩, .int .i64 0, .int .i64 0]) (results_cell_tmp2 Tryz.results9 _ _ (w.heap.size + 1) 39 _ (0, 0) _ rfl (HR2.out.row (s' := ⟨⟨va, vn, vc⟩, ⟨A', m, c'⟩, ⟨fa, fn, fc⟩, ⟨la, ln, lc⟩, 0, out, ind, inat, tok, ton, toat, pipe, ⟨ra, rn, rc⟩, now, calls, over, ask, cn, ⟨ga, gn, gc⟩, ⟨ka, kn, kc⟩, cin⟩) _ rfl) Tryz.underlying39 rfl sta_size) rfl ⟨A', c', rfl, HC2.out, ?_, ?_, ?_⟩
    · exact HL2.out.far HH2.out (by simp) (fun k hk => setRow_other _ _ _ _ (by omega))
    · exact fun a ha => Nat.le_trans (by omega) (HH2.out a ha)
    · exact below_setRow HX2.out (by omega) _
  · have HT := Lib.hid HT1.out
    clear HT1 HT2
    go_enter Tryz.func9, Tryz.ntmps9
    go_wp2_with (first
      | (go_at_call 14; refine (HIS.out _ ((H0.out.alloc H0.out.size _).alloc (by have := H0.out.size; simp; omega) _)).mono ?_; rintro e w1 ⟨rfl, hb1⟩; have HW1 := Lib.hid (((H0.out.alloc H0.out.size _).alloc (by have := H0.out.size; simp; omega) _).trans (hb1.mono (by have := H0.out.size; simp; omega))); have k1 := HD.out w1 HW1.out; have HS1 : Hid (IsSt w1 w.heap.size ⟨⟨va, vn, vc⟩, ⟨aa, an, ac⟩, ⟨fa, fn, fc⟩, ⟨la, ln, lc⟩, status, out, ind, inat, tok, ton, toat, pipe, ⟨ra, rn, rc⟩, now, calls, over, ask, cn, ⟨ga, gn, gc⟩, ⟨ka, kn, kc⟩, cin⟩) := own_blk hb1 (blk2 w _ _); have HR1 : Hid (IsSt w1 (w.heap.size + 1) zeroS) := own_blk hb1 (blk3 w _ _); have HX1 := Lib.hid ((((Below.refl w.heap.size w).alloc (Nat.le_refl _) _).alloc (by simp) _).trans (hb1.mono (by simp; omega))); have hz1 := hb1.size; rw [alloc2_size] at hz1; clear hb1)
      | (go_at_call 20; refine (HCAL.out _ _ (by omega) HT.out _ HW1.out).mono ?_; rintro e w2 ⟨A', c', rfl, hc', hL', hh', hb2⟩; have HL2 := Lib.hid hL'; have HC2 := Lib.hid hc'; have HH2 := Lib.hid hh'; clear hL' hc' hh'; have HR2 := Lib.hid (HR1.out.keep hb2); have HX2 := Lib.hid (HX1.out.trans (hb2.mono HX1.out.size)); clear hb2)
      | (refine wpList_load_row rfl 39 _ rfl (w.heap.size) rfl 39 _ (0, 0) _ HS1.out Tryz.underlying39 rfl sta_size ?_)
      | (refine wpList_store_row rfl 39 _ _ rfl (w.heap.size + 1) _ rfl rfl 39 _ HR2.out sta_size rfl (sta_one ⟨⟨va, vn, vc⟩, ⟨A', m, c'⟩, ⟨fa, fn, fc⟩, ⟨la, ln, lc⟩, 0, out, ind, inat, tok, ton, toat, pipe, ⟨ra, rn, rc⟩, now, calls, over, ask, cn, ⟨ga, gn, gc⟩, ⟨ka, kn, kc⟩, cin⟩) ?_))
    refine bodyPost_ret (v := .tuple #[Sta.val ⟨⟨va, vn, vc⟩, ⟨A', m, c'⟩, ⟨fa, fn, fc⟩, ⟨la, ln, lc⟩, 0, out, ind, inat, tok, ton, toat, pipe, ⟨ra, rn, rc⟩, now, calls, over, ask, cn, ⟨ga, gn, gc⟩, ⟨ka, kn, kc⟩, cin⟩, .int .i64 0, .int .i64 0]) (results_cell_tmp2 Tryz.results9 _ _ (w.heap.size + 1) 39 _ (0, 0) _ rfl (HR2.out.row (s' := ⟨⟨va, vn, vc⟩, ⟨A', m, c'⟩, ⟨fa, fn, fc⟩, ⟨la, ln, lc⟩, 0, out, ind, inat, tok, ton, toat, pipe, ⟨ra, rn, rc⟩, now, calls, over, ask, cn, ⟨ga, gn, gc⟩, ⟨ka, kn, kc⟩, cin⟩) _ rfl) Tryz.underlying39 rfl sta_size) rfl ⟨A', c', rfl, HC2.out, ?_, ?_, ?_⟩
    · exact HL2.out.far HH2.out (by simp) (fun k hk => setRow_other _ _ _ _ (by omega))
    · exact fun a ha => Nat.le_trans (by omega) (HH2.out a ha)
    · exact below_setRow HX2.out (by omega) _

set_option maxHeartbeats 3200000 in
set_option maxRecDepth 100000 in
theorem run_shift_1 (s : Sta) (A : Option Addr) (B : Option Addr) (a : Str) (r : List Str) (m c : Nat) (w0 w : World) (hs : s.args = ⟨B, m + 1, c⟩) (hG : Gb w0) (hL : IsL w0 A [[115, 104, 105, 102, 116]]) (hLa : IsL w0 B (a :: r)) (hb : Below w0.heap.size w0 w) (hn : r.length = m) (hc : m + 1 ≤ c) (hbig : m ≤ 10000) :
    Calls Tryz.prog 9 #[s.val, .slice A 1 1] w (RunSet s r m w) := by
  obtain ⟨b, o, rfl, hlt, hc0⟩ := hL.head
  clear hc0
  have d0 : ∀ w1, Below w0.heap.size w0 w1 → w1.cell? ⟨b, o, none⟩ = some (.string ⟨#[115, 104, 105, 102, 116]⟩) := fun w1 h => hL.read (w := w1) h 0 (by simp)
  have his := fun w1 h => is_c [115, 104, 105, 102, 116] w0 w1 hG h
  rw [show owns.contains [115, 104, 105, 102, 116] = true by decide +kernel] at his
  have hcal : ∀ w1, Below w0.heap.size w0 w1 → Calls Tryz.prog 21 #[s.val, .slice (some ⟨b, o, none⟩) 0 0] w1 (SetOk s r m w1) := fun w1 h => by
    by_cases h2 : 2 ≤ c
    · exact shift_1 s _ _ a r B m c w0 w1 hs hLa h hn hc hbig h2
    · obtain rfl : c = 1 := by omega
      obtain rfl : m = 0 := by omega
      obtain rfl : r = [] := List.eq_nil_of_length_eq_zero hn
      exact shift_2 s _ _ a B w0 w1 hs hLa h
  have HCAL := Lib.hid hcal; clear hcal hLa hn
  have hbw : b < w.heap.size := Nat.lt_of_lt_of_le hlt hb.size
  have k0 := d0 w hb
  have HIS := Lib.hid his; have HD := Lib.hid d0; have H0 := Lib.hid hb
  clear his d0 hb hG hlt
  clear hL
  obtain ⟨⟨va, vn, vc⟩, ⟨aa, an, ac⟩, ⟨fa, fn, fc⟩, ⟨la, ln, lc⟩, status, out, ind, inat, tok, ton, toat, pipe, ⟨ra, rn, rc⟩, now, calls, over, ask, cn, ⟨ga, gn, gc⟩, ⟨ka, kn, kc⟩, cin⟩ := s
  simp only at hs
  injection hs with hs1 hs2 hs3
  subst hs1 hs2 hs3
  · skip
    go_enter Tryz.func9, Tryz.ntmps9
    go_wp2_with (first
      | (go_at_call 14; refine (HIS.out _ ((H0.out.alloc H0.out.size _).alloc (by have := H0.out.size; simp; omega) _)).mono ?_; rintro e w1 ⟨rfl, hb1⟩; have HW1 := Lib.hid (((H0.out.alloc H0.out.size _).alloc (by have := H0.out.size; simp; omega) _).trans (hb1.mono (by have := H0.out.size; simp; omega))); have k1 := HD.out w1 HW1.out; have HS1 : Hid (IsSt w1 w.heap.size ⟨⟨va, vn, vc⟩, ⟨aa, m + 1, ac⟩, ⟨fa, fn, fc⟩, ⟨la, ln, lc⟩, status, out, ind, inat, tok, ton, toat, pipe, ⟨ra, rn, rc⟩, now, calls, over, ask, cn, ⟨ga, gn, gc⟩, ⟨ka, kn, kc⟩, cin⟩) := own_blk hb1 (blk2 w _ _); have HR1 : Hid (IsSt w1 (w.heap.size + 1) zeroS) := own_blk hb1 (blk3 w _ _); have HX1 := Lib.hid ((((Below.refl w.heap.size w).alloc (Nat.le_refl _) _).alloc (by simp) _).trans (hb1.mono (by simp; omega))); have hz1 := hb1.size; rw [alloc2_size] at hz1; clear hb1)
      | (go_at_call 21; refine (HCAL.out _ HW1.out).mono ?_; rintro e w2 ⟨A', c', rfl, hc', hL', hh', hb2⟩; have HL2 := Lib.hid hL'; have HC2 := Lib.hid hc'; have HH2 := Lib.hid hh'; clear hL' hc' hh'; have HR2 := Lib.hid (HR1.out.keep hb2); have HX2 := Lib.hid (HX1.out.trans (hb2.mono HX1.out.size)); clear hb2)
      | (refine wpList_load_row rfl 39 _ rfl (w.heap.size) rfl 39 _ (0, 0) _ HS1.out Tryz.underlying39 rfl sta_size ?_)
      | (refine wpList_store_row rfl 39 _ _ rfl (w.heap.size + 1) _ rfl rfl 39 _ HR2.out sta_size rfl (sta_one ⟨⟨va, vn, vc⟩, ⟨A', m, c'⟩, ⟨fa, fn, fc⟩, ⟨la, ln, lc⟩, 0, out, ind, inat, tok, ton, toat, pipe, ⟨ra, rn, rc⟩, now, calls, over, ask, cn, ⟨ga, gn, gc⟩, ⟨ka, kn, kc⟩, cin⟩) ?_))
    refine bodyPost_ret (v := .tuple #[Sta.val ⟨⟨va, vn, vc⟩, ⟨A', m, c'⟩, ⟨fa, fn, fc⟩, ⟨la, ln, lc⟩, 0, out, ind, inat, tok, ton, toat, pipe, ⟨ra, rn, rc⟩, now, calls, over, ask, cn, ⟨ga, gn, gc⟩, ⟨ka, kn, kc⟩, cin⟩, .int .i64 0, .int .i64 0]) (results_cell_tmp2 Tryz.results9 _ _ (w.heap.size + 1) 39 _ (0, 0) _ rfl (HR2.out.row (s' := ⟨⟨va, vn, vc⟩, ⟨A', m, c'⟩, ⟨fa, fn, fc⟩, ⟨la, ln, lc⟩, 0, out, ind, inat, tok, ton, toat, pipe, ⟨ra, rn, rc⟩, now, calls, over, ask, cn, ⟨ga, gn, gc⟩, ⟨ka, kn, kc⟩, cin⟩) _ rfl) Tryz.underlying39 rfl sta_size) rfl ⟨A', c', rfl, HC2.out, ?_, ?_, ?_⟩
    · exact HL2.out.far HH2.out (by simp) (fun k hk => setRow_other _ _ _ _ (by omega))
    · exact fun a ha => Nat.le_trans (by omega) (HH2.out a ha)
    · exact below_setRow HX2.out (by omega) _

set_option maxHeartbeats 3200000 in
set_option maxRecDepth 100000 in
theorem run_shift_0 (s : Sta) (A : Option Addr) (B : Option Addr) (c : Nat) (w0 w : World) (hs : s.args = ⟨B, 0, c⟩) (hG : Gb w0) (hL : IsL w0 A [[115, 104, 105, 102, 116]]) (hb : Below w0.heap.size w0 w) :
    Calls Tryz.prog 9 #[s.val, .slice A 1 1] w fun e w' => e = ran { s with status := 1 } 0 0 ∧ Below w.heap.size w w' := by
  obtain ⟨b, o, rfl, hlt, hc0⟩ := hL.head
  clear hc0
  have d0 : ∀ w1, Below w0.heap.size w0 w1 → w1.cell? ⟨b, o, none⟩ = some (.string ⟨#[115, 104, 105, 102, 116]⟩) := fun w1 h => hL.read (w := w1) h 0 (by simp)
  have his := fun w1 h => is_c [115, 104, 105, 102, 116] w0 w1 hG h
  rw [show owns.contains [115, 104, 105, 102, 116] = true by decide +kernel] at his
  have hcal : ∀ w1, Calls Tryz.prog 21 #[s.val, .slice (some ⟨b, o, none⟩) 0 0] w1 fun e w' => e = .returned (Sta.val { s with status := 1 }) ∧ Below w1.heap.size w1 w' := fun w1 => shift_0 s _ _ B c w1 hs
  have HCAL := Lib.hid hcal; clear hcal
  have hbw : b < w.heap.size := Nat.lt_of_lt_of_le hlt hb.size
  have k0 := d0 w hb
  have HIS := Lib.hid his; have HD := Lib.hid d0; have H0 := Lib.hid hb
  clear his d0 hb hG hlt
  clear hL
  obtain ⟨⟨va, vn, vc⟩, ⟨aa, an, ac⟩, ⟨fa, fn, fc⟩, ⟨la, ln, lc⟩, status, out, ind, inat, tok, ton, toat, pipe, ⟨ra, rn, rc⟩, now, calls, over, ask, cn, ⟨ga, gn, gc⟩, ⟨ka, kn, kc⟩, cin⟩ := s
  simp only at hs
  injection hs with hs1 hs2 hs3
  subst hs1 hs2 hs3
  · skip
    go_enter Tryz.func9, Tryz.ntmps9
    go_wp2_with (first
      | (go_at_call 14; refine (HIS.out _ ((H0.out.alloc H0.out.size _).alloc (by have := H0.out.size; simp; omega) _)).mono ?_; rintro e w1 ⟨rfl, hb1⟩; have HW1 := Lib.hid (((H0.out.alloc H0.out.size _).alloc (by have := H0.out.size; simp; omega) _).trans (hb1.mono (by have := H0.out.size; simp; omega))); have k1 := HD.out w1 HW1.out; have HS1 : Hid (IsSt w1 w.heap.size ⟨⟨va, vn, vc⟩, ⟨aa, 0, ac⟩, ⟨fa, fn, fc⟩, ⟨la, ln, lc⟩, status, out, ind, inat, tok, ton, toat, pipe, ⟨ra, rn, rc⟩, now, calls, over, ask, cn, ⟨ga, gn, gc⟩, ⟨ka, kn, kc⟩, cin⟩) := own_blk hb1 (blk2 w _ _); have HR1 : Hid (IsSt w1 (w.heap.size + 1) zeroS) := own_blk hb1 (blk3 w _ _); have HX1 := Lib.hid ((((Below.refl w.heap.size w).alloc (Nat.le_refl _) _).alloc (by simp) _).trans (hb1.mono (by simp; omega))); have hz1 := hb1.size; rw [alloc2_size] at hz1; clear hb1)
      | (go_at_call 21; refine (HCAL.out _).mono ?_; rintro e w2 ⟨rfl, hb2⟩; have HR2 := Lib.hid (HR1.out.keep hb2); have HX2 := Lib.hid (HX1.out.trans (hb2.mono HX1.out.size)); clear hb2)
      | (refine wpList_load_row rfl 39 _ rfl (w.heap.size) rfl 39 _ (0, 0) _ HS1.out Tryz.underlying39 rfl sta_size ?_)
      | (refine wpList_store_row rfl 39 _ _ rfl (w.heap.size + 1) _ rfl rfl 39 _ HR2.out sta_size rfl (sta_one ⟨⟨va, vn, vc⟩, ⟨aa, 0, ac⟩, ⟨fa, fn, fc⟩, ⟨la, ln, lc⟩, 1, out, ind, inat, tok, ton, toat, pipe, ⟨ra, rn, rc⟩, now, calls, over, ask, cn, ⟨ga, gn, gc⟩, ⟨ka, kn, kc⟩, cin⟩) ?_))
    refine bodyPost_ret (v := .tuple #[Sta.val ⟨⟨va, vn, vc⟩, ⟨aa, 0, ac⟩, ⟨fa, fn, fc⟩, ⟨la, ln, lc⟩, 1, out, ind, inat, tok, ton, toat, pipe, ⟨ra, rn, rc⟩, now, calls, over, ask, cn, ⟨ga, gn, gc⟩, ⟨ka, kn, kc⟩, cin⟩, .int .i64 0, .int .i64 0]) (results_cell_tmp2 Tryz.results9 _ _ (w.heap.size + 1) 39 _ (0, 0) _ rfl (HR2.out.row (s' := ⟨⟨va, vn, vc⟩, ⟨aa, 0, ac⟩, ⟨fa, fn, fc⟩, ⟨la, ln, lc⟩, 1, out, ind, inat, tok, ton, toat, pipe, ⟨ra, rn, rc⟩, now, calls, over, ask, cn, ⟨ga, gn, gc⟩, ⟨ka, kn, kc⟩, cin⟩) _ rfl) Tryz.underlying39 rfl sta_size) rfl ⟨rfl, ?_⟩
    exact below_setRow HX2.out (by omega) _
end Go.Proofs.YtcpafdcghlpabaaGreatDoor.Bu
