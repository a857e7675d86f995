/-
The walk of built.read. (Written by gen_bu17.py.)
-/
import Derived.Test.YtcpafdcghlpabaaGreatDoorBu16
import Derived.StillTailTactics
set_option linter.unusedVariables false
set_option linter.unusedSimpArgs false
namespace Go.Proofs.YtcpafdcghlpabaaGreatDoor.Bu
open Go.RowKit Go.Shelf Go.Proofs.YtcpafdcghlpabaaGreatDoor.Ar

/-- A machine with these variables. -/
def ReadB (s : Sta) (bs : List Bd) (w : World) (e : Ending) (w' : World) : Prop := ∃ A' c', e = .returned (Sta.val { s with vars := ⟨A', bs.length, c'⟩, status := 0 }) ∧ bs.length ≤ c' ∧ IsB w' A' bs ∧ High w.heap.size A' ∧ Below w.heap.size w w'
/-- A machine that has neither arguments nor functions. -/
@[reducible] def bareS (VA : Option Addr) (vc : Nat) (la : Option Addr) (ln lc : Nat) (status : Int) (out : ByteArray) (D : Str) (a : Nat) (tok : Int) (ton : ByteArray) (toat : Int) (pipe : ByteArray) (ra : Option Addr) (rn rc : Nat) (now calls : Int) (over ask : Bool) (cn : Int) (ga : Option Addr) (gn gc : Nat) (ka : Option Addr) (kn kc : Nat) (cin : ByteArray) (bs : List Bd) : Sta := ⟨⟨VA, bs.length, vc⟩, ⟨none, 0, 0⟩, ⟨none, 0, 0⟩, ⟨la, ln, lc⟩, status, out, st D, (a : Int), tok, ton, toat, pipe, ⟨ra, rn, rc⟩, now, calls, over, ask, cn, ⟨ga, gn, gc⟩, ⟨ka, kn, kc⟩, cin⟩

set_option maxHeartbeats 6400000 in
set_option maxRecDepth 100000 in
theorem read_yes (VA : Option Addr) (vc : Nat) (la : Option Addr) (ln lc : Nat) (status : Int) (out : ByteArray) (D : Str) (a : Nat) (tok : Int) (ton : ByteArray) (toat : Int) (pipe : ByteArray) (ra : Option Addr) (rn rc : Nat) (now calls : Int) (over ask : Bool) (cn : Int) (ga : Option Addr) (gn gc : Nat) (ka : Option Addr) (kn kc : Nat) (cin : ByteArray) (bs bs' : List Bd) (NM : Str) (bk o c : Nat) (w0 w : World) (hB : IsB w0 VA bs) (hL : IsL w0 (some ⟨bk, o, none⟩) [NM]) (hb : Below w0.heap.size w0 w) (hc : 1 ≤ c) (hbig : bs.length ≤ 1000) (hle : a ≤ D.length) (hl : D.length ≤ 1000000) (hne : D.drop a ≠ []) (hnm : isName NM = true) (hnl : NM.length ≤ 1000000) (hput : PutOk bs bs' NM (lineZ (D.drop a))) :
    Calls Tryz.prog 22 #[Sta.val ⟨⟨VA, bs.length, vc⟩, ⟨none, 0, 0⟩, ⟨none, 0, 0⟩, ⟨la, ln, lc⟩, status, out, st D, (a : Int), tok, ton, toat, pipe, ⟨ra, rn, rc⟩, now, calls, over, ask, cn, ⟨ga, gn, gc⟩, ⟨ka, kn, kc⟩, cin⟩, .slice (some ⟨bk, o, none⟩) 1 c] w (ReadB (lineS ⟨⟨VA, bs.length, vc⟩, ⟨none, 0, 0⟩, ⟨none, 0, 0⟩, ⟨la, ln, lc⟩, status, out, st D, (a : Int), tok, ton, toat, pipe, ⟨ra, rn, rc⟩, now, calls, over, ask, cn, ⟨ga, gn, gc⟩, ⟨ka, kn, kc⟩, cin⟩ D a) bs' w) := by
  have hlc := fun w1 => line_c1 ⟨⟨VA, bs.length, vc⟩, ⟨none, 0, 0⟩, ⟨none, 0, 0⟩, ⟨la, ln, lc⟩, status, out, st D, (a : Int), tok, ton, toat, pipe, ⟨ra, rn, rc⟩, now, calls, over, ask, cn, ⟨ga, gn, gc⟩, ⟨ka, kn, kc⟩, cin⟩ D a w1 rfl rfl hle (by omega) hne
  have hz : lineS ⟨⟨VA, bs.length, vc⟩, ⟨none, 0, 0⟩, ⟨none, 0, 0⟩, ⟨la, ln, lc⟩, status, out, st D, (a : Int), tok, ton, toat, pipe, ⟨ra, rn, rc⟩, now, calls, over, ask, cn, ⟨ga, gn, gc⟩, ⟨ka, kn, kc⟩, cin⟩ D a = { (⟨⟨VA, bs.length, vc⟩, ⟨none, 0, 0⟩, ⟨none, 0, 0⟩, ⟨la, ln, lc⟩, status, out, st D, (a : Int), tok, ton, toat, pipe, ⟨ra, rn, rc⟩, now, calls, over, ask, cn, ⟨ga, gn, gc⟩, ⟨ka, kn, kc⟩, cin⟩ : Sta) with inat := ((D.length - (restZ (D.drop a)).length : Nat) : Int) } := by unfold lineS; rw [if_neg hne]
  rw [hz]
  rw [hz] at hlc
  clear hz
  generalize ((D.length - (restZ (D.drop a)).length : Nat) : Int) = na at *
  have hnc := fun w1 => name_c (st NM) w1 (by rw [st_size]; omega)
  rw [show isName (B (st NM)) = true from hnm] at hnc
  have hset := fun w1 h => set_env_c bs bs' NM (lineZ (D.drop a)) VA bs.length vc w0 w1 hB rfl h hbig hput
  have hbw : bk < w.heap.size := Nat.lt_of_lt_of_le (cell_lt' (hL.read (Below.refl _ _) 0 (by simp))) hb.size
  have d0 : ∀ w1, Below w0.heap.size w0 w1 → w1.cell? ⟨bk, o, none⟩ = some (.string (st NM)) := fun w1 h => hL.read (w := w1) h 0 (by simp)
  have k0 := d0 w hb
  generalize lineZ (D.drop a) = LN at *
  have HLC := Lib.hid hlc; have HNC := Lib.hid hnc; have HSET := Lib.hid hset; have HD := Lib.hid d0; have H0 := Lib.hid hb
  clear hlc hnc hset d0 hb hB hL hput hne hle hl hnl hnm
  generalize st NM = NN at *
  generalize st LN = LL at *
  go_enter Tryz.func22, Tryz.ntmps22
  go_wp2_with (first
    | (go_at_call 47; refine (HNC.out _).mono ?_; rintro e w1 ⟨rfl, hb1⟩; have HS1 : Hid (IsSt w1 w.heap.size ⟨⟨VA, bs.length, vc⟩, ⟨none, 0, 0⟩, ⟨none, 0, 0⟩, ⟨la, ln, lc⟩, status, out, st D, (a : Int), tok, ton, toat, pipe, ⟨ra, rn, rc⟩, now, calls, over, ask, cn, ⟨ga, gn, gc⟩, ⟨ka, kn, kc⟩, cin⟩) := own_blk hb1 (blk2 w _ _); have HR1 : Hid (IsSt w1 (w.heap.size + 1) zeroS) := own_blk hb1 (blk3 w _ _); have HX1 := Lib.hid ((below_alloc2 w _ _).trans (hb1.mono (size2_le w _ _))); clear hb1)
    | (refine wpList_load_row rfl 39 _ rfl w.heap.size rfl 39 _ (0, 0) _ HS1.out Tryz.underlying39 rfl sta_size ?_)
    | (go_at_call 48; refine (HLC.out _).mono ?_; rintro e w2 ⟨rfl, hb2⟩; have HR2 := Lib.hid (HR1.out.keep hb2); have HX2 := Lib.hid (HX1.out.trans (hb2.mono HX1.out.size)); clear hb2)
    | (refine wpList_store_row rfl 39 _ _ rfl w2.heap.size _ rfl rfl 39 _ (blk_new w2 _) sta_size rfl (sta_one ⟨⟨VA, bs.length, vc⟩, ⟨none, 0, 0⟩, ⟨none, 0, 0⟩, ⟨la, ln, lc⟩, status, out, st D, na, tok, ton, toat, pipe, ⟨ra, rn, rc⟩, now, calls, over, ask, cn, ⟨ga, gn, gc⟩, ⟨ka, kn, kc⟩, cin⟩) ?_; generalize hW : World.setRow _ _ _ = W3; have hs : IsSt W3 w2.heap.size ⟨⟨VA, bs.length, vc⟩, ⟨none, 0, 0⟩, ⟨none, 0, 0⟩, ⟨la, ln, lc⟩, status, out, st D, na, tok, ton, toat, pipe, ⟨ra, rn, rc⟩, now, calls, over, ask, cn, ⟨ga, gn, gc⟩, ⟨ka, kn, kc⟩, cin⟩ := (by rw [← hW]; exact IsSt.row (s := zeroS) (blk_new w2 _) _ rfl); have HB23 : Hid (Below w2.heap.size w2 W3) := (by rw [← hW]; exact below_setRow (below_alloc1 w2 _) (Nat.le_refl _) _); clear hW; have HS3 := Lib.hid hs; clear hs; have k4 := HS3.out.cells.2.2.2.2.1; have kf4 := HS3.out.f 4; have HR3 := Lib.hid (HR2.out.keep HB23.out); have HX3 := Lib.hid (HX2.out.trans (HB23.out.mono HX2.out.size)))
    | (go_at_call 16; refine (status_c _ _).mono ?_; rintro e w5 ⟨rfl, rfl⟩))
  have HS4 := Lib.hid (HS3.out.setStatus (stZ true))
  have HR4 : Hid (IsSt (w5.setCell ⟨w2.heap.size, 4, none⟩ (.int .i64 (stZ true))) (w.heap.size + 1) zeroS) := (Below.heap_setCell _ _ _ _ (by have := HR2.out.lt; simp; omega)).trans HR3.out
  have HX4 := Lib.hid (HX3.out.setCell (p := ⟨w2.heap.size, 4, none⟩) HX2.out.size (.int .i64 (stZ true)))
  have HG : Hid (w.heap.size + 1 < w2.heap.size) := HR2.out.lt
  clear k4 kf4
  generalize hW : w5.setCell ⟨w2.heap.size, 4, none⟩ (.int .i64 (stZ true)) = W4 at *
  clear hW
  have HW4 := Lib.hid (H0.out.trans (HX4.out.mono H0.out.size))
  have k5 := HD.out W4 HW4.out
  have x0 := HS4.out.cells.1
  have x1 := HS4.out.cells.2.1
  have x2 := HS4.out.cells.2.2.1
  go_still_tail 6, (by kernel_rfl)
  go_wp2_with (first
    | (go_at_call 49; refine (HSET.out _ HW4.out.drew).mono ?_; rintro e w6 ⟨A4, c4, rfl, hc4, hB4, hh4, hb4⟩; have HS5 := Lib.hid (IsSt.keep (w := W4.drew) HS4.out hb4); have HR5 := Lib.hid (IsSt.keep (w := W4.drew) HR4.out hb4); clear x0 x1 x2; have y0 := HS5.out.cells.1; have y1 := HS5.out.cells.2.1; have y2 := HS5.out.cells.2.2.1; have f0 := HS5.out.f 0; have f1 := HS5.out.f 1; have f2 := HS5.out.f 2; have HX5 := Lib.hid (HX4.out.drew.trans (hb4.mono (show w.heap.size ≤ W4.heap.size from HX4.out.size))); have HB4 := Lib.hid hB4; have HH4 := Lib.hid hh4; have HC4 := Lib.hid hc4; have HS7 : Hid (IsSt (((w6.setCell ⟨w2.heap.size, 0, none⟩ (.slice A4 bs'.length c4)).setCell ⟨w2.heap.size, 1, none⟩ (.slice none 0 0)).setCell ⟨w2.heap.size, 2, none⟩ (.slice none 0 0)) w2.heap.size ⟨⟨A4, bs'.length, c4⟩, ⟨none, 0, 0⟩, ⟨none, 0, 0⟩, ⟨la, ln, lc⟩, 0, out, st D, na, tok, ton, toat, pipe, ⟨ra, rn, rc⟩, now, calls, over, ask, cn, ⟨ga, gn, gc⟩, ⟨ka, kn, kc⟩, cin⟩) := (blk_set (blk_set (blk_set HS5.out 0 _) 1 _) 2 _).trans rfl; have HR7 : Hid (IsSt (((w6.setCell ⟨w2.heap.size, 0, none⟩ (.slice A4 bs'.length c4)).setCell ⟨w2.heap.size, 1, none⟩ (.slice none 0 0)).setCell ⟨w2.heap.size, 2, none⟩ (.slice none 0 0)) (w.heap.size + 1) zeroS) := (three_other (Nat.ne_of_lt HG.out)).trans HR5.out; clear hb4 hB4 hh4 hc4)
    | (refine wpList_load_row rfl 39 _ rfl w2.heap.size rfl 39 _ (0, 0) _ HS7.out Tryz.underlying39 rfl sta_size ?_)
    | (refine wpList_store_row rfl 39 _ _ rfl (w.heap.size + 1) _ rfl rfl 39 _ HR7.out sta_size rfl (sta_one ⟨⟨A4, bs'.length, c4⟩, ⟨none, 0, 0⟩, ⟨none, 0, 0⟩, ⟨la, ln, lc⟩, 0, out, st D, na, tok, ton, toat, pipe, ⟨ra, rn, rc⟩, now, calls, over, ask, cn, ⟨ga, gn, gc⟩, ⟨ka, kn, kc⟩, cin⟩) ?_))
  refine bodyPost_ret (v := Sta.val ⟨⟨A4, bs'.length, c4⟩, ⟨none, 0, 0⟩, ⟨none, 0, 0⟩, ⟨la, ln, lc⟩, 0, out, st D, na, tok, ton, toat, pipe, ⟨ra, rn, rc⟩, now, calls, over, ask, cn, ⟨ga, gn, gc⟩, ⟨ka, kn, kc⟩, cin⟩) (results_cell_row Tryz.results22 _ _ (w.heap.size + 1) 39 _ (0, 0) _ rfl (HR7.out.row (s' := ⟨⟨A4, bs'.length, c4⟩, ⟨none, 0, 0⟩, ⟨none, 0, 0⟩, ⟨la, ln, lc⟩, 0, out, st D, na, tok, ton, toat, pipe, ⟨ra, rn, rc⟩, now, calls, over, ask, cn, ⟨ga, gn, gc⟩, ⟨ka, kn, kc⟩, cin⟩) _ rfl) Tryz.underlying39 rfl sta_size) rfl ⟨A4, c4, rfl, HC4.out, ?_, ?_, ?_⟩
  · have hx4 := HS4.out.lt
    have hx5 := HG.out
    refine HB4.out.far HH4.out (by simp) (fun k hk => ?_)
    have hk' : W4.heap.size ≤ k := hk
    rw [setRow_other _ _ _ _ (by omega), three_other (by omega)]
  · exact fun a ha => Nat.le_trans HX4.out.size (HH4.out a ha)
  · have hx2 := HX2.out.size
    exact below_setRow (((HX5.out.setCell hx2 _).setCell hx2 _).setCell hx2 _) (by omega) _

set_option maxHeartbeats 6400000 in
set_option maxRecDepth 100000 in
theorem read_none (VA : Option Addr) (vc : Nat) (la : Option Addr) (ln lc : Nat) (status : Int) (out : ByteArray) (D : Str) (a : Nat) (tok : Int) (ton : ByteArray) (toat : Int) (pipe : ByteArray) (ra : Option Addr) (rn rc : Nat) (now calls : Int) (over ask : Bool) (cn : Int) (ga : Option Addr) (gn gc : Nat) (ka : Option Addr) (kn kc : Nat) (cin : ByteArray) (bs : List Bd) (NM : Str) (bk o c : Nat) (w0 w : World) (hL : IsL w0 (some ⟨bk, o, none⟩) [NM]) (hb : Below w0.heap.size w0 w) (hc : 1 ≤ c) (hle : a ≤ D.length) (hl : D.length ≤ 1000000) (hne : D.drop a = []) (hnm : isName NM = true) (hnl : NM.length ≤ 1000000) :
    Calls Tryz.prog 22 #[Sta.val ⟨⟨VA, bs.length, vc⟩, ⟨none, 0, 0⟩, ⟨none, 0, 0⟩, ⟨la, ln, lc⟩, status, out, st D, (a : Int), tok, ton, toat, pipe, ⟨ra, rn, rc⟩, now, calls, over, ask, cn, ⟨ga, gn, gc⟩, ⟨ka, kn, kc⟩, cin⟩, .slice (some ⟨bk, o, none⟩) 1 c] w fun e w' => e = .returned (Sta.val { (⟨⟨VA, bs.length, vc⟩, ⟨none, 0, 0⟩, ⟨none, 0, 0⟩, ⟨la, ln, lc⟩, status, out, st D, (a : Int), tok, ton, toat, pipe, ⟨ra, rn, rc⟩, now, calls, over, ask, cn, ⟨ga, gn, gc⟩, ⟨ka, kn, kc⟩, cin⟩ : Sta) with status := 1 }) ∧ Below w.heap.size w w' := by
  have hlc := fun w1 => line_c0 ⟨⟨VA, bs.length, vc⟩, ⟨none, 0, 0⟩, ⟨none, 0, 0⟩, ⟨la, ln, lc⟩, status, out, st D, (a : Int), tok, ton, toat, pipe, ⟨ra, rn, rc⟩, now, calls, over, ask, cn, ⟨ga, gn, gc⟩, ⟨ka, kn, kc⟩, cin⟩ D a w1 rfl rfl hle (by omega) hne
  have hz : lineS ⟨⟨VA, bs.length, vc⟩, ⟨none, 0, 0⟩, ⟨none, 0, 0⟩, ⟨la, ln, lc⟩, status, out, st D, (a : Int), tok, ton, toat, pipe, ⟨ra, rn, rc⟩, now, calls, over, ask, cn, ⟨ga, gn, gc⟩, ⟨ka, kn, kc⟩, cin⟩ D a = ⟨⟨VA, bs.length, vc⟩, ⟨none, 0, 0⟩, ⟨none, 0, 0⟩, ⟨la, ln, lc⟩, status, out, st D, (a : Int), tok, ton, toat, pipe, ⟨ra, rn, rc⟩, now, calls, over, ask, cn, ⟨ga, gn, gc⟩, ⟨ka, kn, kc⟩, cin⟩ := by unfold lineS; rw [if_pos hne]
  rw [hz] at hlc
  clear hz
  have hnc := fun w1 => name_c (st NM) w1 (by rw [st_size]; omega)
  rw [show isName (B (st NM)) = true from hnm] at hnc
  have hbw : bk < w.heap.size := Nat.lt_of_lt_of_le (cell_lt' (hL.read (Below.refl _ _) 0 (by simp))) hb.size
  have k0 : w.cell? ⟨bk, o, none⟩ = some (.string (st NM)) := hL.read hb 0 (by simp)
  generalize lineZ (D.drop a) = LN at *
  have HLC := Lib.hid hlc; have HNC := Lib.hid hnc
  clear hlc hnc hb hL hne hle hl hnl hnm
  generalize st NM = NN at *
  generalize st LN = LL at *
  go_enter Tryz.func22, Tryz.ntmps22
  go_wp2_with (first
    | (go_at_call 47; refine (HNC.out _).mono ?_; rintro e w1 ⟨rfl, hb1⟩; have HS1 : Hid (IsSt w1 w.heap.size ⟨⟨VA, bs.length, vc⟩, ⟨none, 0, 0⟩, ⟨none, 0, 0⟩, ⟨la, ln, lc⟩, status, out, st D, (a : Int), tok, ton, toat, pipe, ⟨ra, rn, rc⟩, now, calls, over, ask, cn, ⟨ga, gn, gc⟩, ⟨ka, kn, kc⟩, cin⟩) := own_blk hb1 (blk2 w _ _); have HR1 : Hid (IsSt w1 (w.heap.size + 1) zeroS) := own_blk hb1 (blk3 w _ _); have HX1 := Lib.hid ((below_alloc2 w _ _).trans (hb1.mono (size2_le w _ _))); clear hb1)
    | (refine wpList_load_row rfl 39 _ rfl w.heap.size rfl 39 _ (0, 0) _ HS1.out Tryz.underlying39 rfl sta_size ?_)
    | (go_at_call 48; refine (HLC.out _).mono ?_; rintro e w2 ⟨rfl, hb2⟩; have HR2 := Lib.hid (HR1.out.keep hb2); have HX2 := Lib.hid (HX1.out.trans (hb2.mono HX1.out.size)); clear hb2)
    | (refine wpList_store_row rfl 39 _ _ rfl w2.heap.size _ rfl rfl 39 _ (blk_new w2 _) sta_size rfl (sta_one ⟨⟨VA, bs.length, vc⟩, ⟨none, 0, 0⟩, ⟨none, 0, 0⟩, ⟨la, ln, lc⟩, status, out, st D, (a : Int), tok, ton, toat, pipe, ⟨ra, rn, rc⟩, now, calls, over, ask, cn, ⟨ga, gn, gc⟩, ⟨ka, kn, kc⟩, cin⟩) ?_; generalize hW : World.setRow _ _ _ = W3; have hs : IsSt W3 w2.heap.size ⟨⟨VA, bs.length, vc⟩, ⟨none, 0, 0⟩, ⟨none, 0, 0⟩, ⟨la, ln, lc⟩, status, out, st D, (a : Int), tok, ton, toat, pipe, ⟨ra, rn, rc⟩, now, calls, over, ask, cn, ⟨ga, gn, gc⟩, ⟨ka, kn, kc⟩, cin⟩ := (by rw [← hW]; exact IsSt.row (s := zeroS) (blk_new w2 _) _ rfl); have HB23 : Hid (Below w2.heap.size w2 W3) := (by rw [← hW]; exact below_setRow (below_alloc1 w2 _) (Nat.le_refl _) _); clear hW; have HS3 := Lib.hid hs; clear hs; have k4 := HS3.out.cells.2.2.2.2.1; have kf4 := HS3.out.f 4; have HR3 := Lib.hid (HR2.out.keep HB23.out); have HX3 := Lib.hid (HX2.out.trans (HB23.out.mono HX2.out.size)); have HS4 := Lib.hid (HS3.out.setStatus (stZ false)); have HR4 : Hid (IsSt (W3.setCell ⟨w2.heap.size, 4, none⟩ (.int .i64 (stZ false))) (w.heap.size + 1) zeroS) := (Below.heap_setCell _ _ _ _ (Nat.ne_of_lt HR2.out.lt)).trans HR3.out; have HX4 := Lib.hid (HX3.out.setCell (p := ⟨w2.heap.size, 4, none⟩) HX2.out.size (.int .i64 (stZ false))))
    | (go_at_call 16; refine (status_c _ _).mono ?_; rintro e w5 ⟨rfl, rfl⟩)
    | (refine wpList_load_row rfl 39 _ rfl w2.heap.size rfl 39 _ (0, 0) _ HS4.out Tryz.underlying39 rfl sta_size ?_)
    | (refine wpList_store_row rfl 39 _ _ rfl (w.heap.size + 1) _ rfl rfl 39 _ HR4.out sta_size rfl (sta_one ⟨⟨VA, bs.length, vc⟩, ⟨none, 0, 0⟩, ⟨none, 0, 0⟩, ⟨la, ln, lc⟩, (stZ false), out, st D, (a : Int), tok, ton, toat, pipe, ⟨ra, rn, rc⟩, now, calls, over, ask, cn, ⟨ga, gn, gc⟩, ⟨ka, kn, kc⟩, cin⟩) ?_))
  refine bodyPost_ret (v := Sta.val ⟨⟨VA, bs.length, vc⟩, ⟨none, 0, 0⟩, ⟨none, 0, 0⟩, ⟨la, ln, lc⟩, (stZ false), out, st D, (a : Int), tok, ton, toat, pipe, ⟨ra, rn, rc⟩, now, calls, over, ask, cn, ⟨ga, gn, gc⟩, ⟨ka, kn, kc⟩, cin⟩) (results_cell_row Tryz.results22 _ _ (w.heap.size + 1) 39 _ (0, 0) _ rfl (HR4.out.row (s' := ⟨⟨VA, bs.length, vc⟩, ⟨none, 0, 0⟩, ⟨none, 0, 0⟩, ⟨la, ln, lc⟩, (stZ false), out, st D, (a : Int), tok, ton, toat, pipe, ⟨ra, rn, rc⟩, now, calls, over, ask, cn, ⟨ga, gn, gc⟩, ⟨ka, kn, kc⟩, cin⟩) _ rfl) Tryz.underlying39 rfl sta_size) rfl ⟨rfl, ?_⟩
  exact below_setRow HX4.out (by omega) _

set_option maxHeartbeats 6400000 in
set_option maxRecDepth 100000 in
theorem read_bad (VA : Option Addr) (vc : Nat) (la : Option Addr) (ln lc : Nat) (status : Int) (out : ByteArray) (D : Str) (a : Nat) (tok : Int) (ton : ByteArray) (toat : Int) (pipe : ByteArray) (ra : Option Addr) (rn rc : Nat) (now calls : Int) (over ask : Bool) (cn : Int) (ga : Option Addr) (gn gc : Nat) (ka : Option Addr) (kn kc : Nat) (cin : ByteArray) (bs : List Bd) (NM : Str) (bk o c : Nat) (w0 w : World) (hL : IsL w0 (some ⟨bk, o, none⟩) [NM]) (hb : Below w0.heap.size w0 w) (hc : 1 ≤ c) (hnm : isName NM = false) (hnl : NM.length ≤ 1000000) :
    Calls Tryz.prog 22 #[Sta.val ⟨⟨VA, bs.length, vc⟩, ⟨none, 0, 0⟩, ⟨none, 0, 0⟩, ⟨la, ln, lc⟩, status, out, st D, (a : Int), tok, ton, toat, pipe, ⟨ra, rn, rc⟩, now, calls, over, ask, cn, ⟨ga, gn, gc⟩, ⟨ka, kn, kc⟩, cin⟩, .slice (some ⟨bk, o, none⟩) 1 c] w fun e w' => e = .returned (Sta.val { (⟨⟨VA, bs.length, vc⟩, ⟨none, 0, 0⟩, ⟨none, 0, 0⟩, ⟨la, ln, lc⟩, status, out, st D, (a : Int), tok, ton, toat, pipe, ⟨ra, rn, rc⟩, now, calls, over, ask, cn, ⟨ga, gn, gc⟩, ⟨ka, kn, kc⟩, cin⟩ : Sta) with status := 2 }) ∧ Below w.heap.size w w' := by
  have hnc := fun w1 => name_c (st NM) w1 (by rw [st_size]; omega)
  rw [show isName (B (st NM)) = false from hnm] at hnc
  have hbw : bk < w.heap.size := Nat.lt_of_lt_of_le (cell_lt' (hL.read (Below.refl _ _) 0 (by simp))) hb.size
  have k0 : w.cell? ⟨bk, o, none⟩ = some (.string (st NM)) := hL.read hb 0 (by simp)
  have HNC := Lib.hid hnc
  clear hnc hb hL hnl hnm
  generalize st NM = NN at *
  go_enter Tryz.func22, Tryz.ntmps22
  go_wp2_with (first
    | (go_at_call 47; refine (HNC.out _).mono ?_; rintro e w1 ⟨rfl, hb1⟩; have HS1 : Hid (IsSt w1 w.heap.size ⟨⟨VA, bs.length, vc⟩, ⟨none, 0, 0⟩, ⟨none, 0, 0⟩, ⟨la, ln, lc⟩, status, out, st D, (a : Int), tok, ton, toat, pipe, ⟨ra, rn, rc⟩, now, calls, over, ask, cn, ⟨ga, gn, gc⟩, ⟨ka, kn, kc⟩, cin⟩) := own_blk hb1 (blk2 w _ _); have HR1 : Hid (IsSt w1 (w.heap.size + 1) zeroS) := own_blk hb1 (blk3 w _ _); have HX1 := Lib.hid ((below_alloc2 w _ _).trans (hb1.mono (size2_le w _ _))); have k4 := HS1.out.cells.2.2.2.2.1; have kf4 := HS1.out.f 4; have HS4 := Lib.hid (HS1.out.setStatus 2); have HR4 : Hid (IsSt (w1.setCell ⟨w.heap.size, 4, none⟩ (.int .i64 2)) (w.heap.size + 1) zeroS) := (Below.heap_setCell _ _ _ _ (by simp)).trans HR1.out; clear hb1)
    | (refine wpList_load_row rfl 39 _ rfl w.heap.size rfl 39 _ (0, 0) _ HS4.out Tryz.underlying39 rfl sta_size ?_)
    | (refine wpList_store_row rfl 39 _ _ rfl (w.heap.size + 1) _ rfl rfl 39 _ HR4.out sta_size rfl (sta_one ⟨⟨VA, bs.length, vc⟩, ⟨none, 0, 0⟩, ⟨none, 0, 0⟩, ⟨la, ln, lc⟩, 2, out, st D, (a : Int), tok, ton, toat, pipe, ⟨ra, rn, rc⟩, now, calls, over, ask, cn, ⟨ga, gn, gc⟩, ⟨ka, kn, kc⟩, cin⟩) ?_))
  refine bodyPost_ret (v := Sta.val ⟨⟨VA, bs.length, vc⟩, ⟨none, 0, 0⟩, ⟨none, 0, 0⟩, ⟨la, ln, lc⟩, 2, out, st D, (a : Int), tok, ton, toat, pipe, ⟨ra, rn, rc⟩, now, calls, over, ask, cn, ⟨ga, gn, gc⟩, ⟨ka, kn, kc⟩, cin⟩) (results_cell_row Tryz.results22 _ _ (w.heap.size + 1) 39 _ (0, 0) _ rfl (HR4.out.row (s' := ⟨⟨VA, bs.length, vc⟩, ⟨none, 0, 0⟩, ⟨none, 0, 0⟩, ⟨la, ln, lc⟩, 2, out, st D, (a : Int), tok, ton, toat, pipe, ⟨ra, rn, rc⟩, now, calls, over, ask, cn, ⟨ga, gn, gc⟩, ⟨ka, kn, kc⟩, cin⟩) _ rfl) Tryz.underlying39 rfl sta_size) rfl ⟨rfl, ?_⟩
  exact below_setRow (HX1.out.setCell (Nat.le_refl _) _) (by omega) _
end Go.Proofs.YtcpafdcghlpabaaGreatDoor.Bu
