/-
The walk of built.Run at read. (Written by gen_bu19.py.)
-/
import Derived.Test.YtcpafdcghlpabaaGreatDoorBu17
import Derived.Test.YtcpafdcghlpabaaGreatDoorBu18
set_option linter.unusedVariables false
set_option linter.unusedSimpArgs false
namespace Go.Proofs.YtcpafdcghlpabaaGreatDoor.Bu
open Go.RowKit Go.Shelf Go.Proofs.YtcpafdcghlpabaaGreatDoor.Ar

def sRead : Str := [114, 101, 97, 100]
/-- Run leaves a machine with these variables. -/
def RunRead (s : Sta) (bs : List Bd) (w : World) (e : Ending) (w' : World) : Prop := ∃ A' c', e = ran { s with vars := ⟨A', bs.length, c'⟩, status := 0 } 0 0 ∧ bs.length ≤ c' ∧ IsB w' A' bs ∧ High w.heap.size A' ∧ Below w.heap.size w w'

set_option maxHeartbeats 6400000 in
set_option maxRecDepth 100000 in
theorem run_read_yes (VA : Option Addr) (vc : Nat) (la : Option Addr) (ln lc : Nat) (status : Int) (out : ByteArray) (D : Str) (a : Nat) (tok : Int) (ton : ByteArray) (toat : Int) (pipe : ByteArray) (ra : Option Addr) (rn rc : Nat) (now calls : Int) (over ask : Bool) (cn : Int) (ga : Option Addr) (gn gc : Nat) (ka : Option Addr) (kn kc : Nat) (cin : ByteArray) (bs bs' : List Bd) (NM : Str) (b o : Nat) (w0 w : World) (hG : Gb w0) (hL : IsL w0 (some ⟨b, o, none⟩) [sRead, NM]) (hb : Below w0.heap.size w0 w) (hnl : NM.length ≤ 1000000) (hB : IsB w0 VA bs) (hbig : bs.length ≤ 1000) (hle : a ≤ D.length) (hl : D.length ≤ 1000000) (hne : D.drop a ≠ []) (hnm : isName NM = true) (hput : PutOk bs bs' NM (lineZ (D.drop a))) :
    Calls Tryz.prog 9 #[Sta.val ⟨⟨VA, bs.length, vc⟩, ⟨none, 0, 0⟩, ⟨none, 0, 0⟩, ⟨la, ln, lc⟩, status, out, st D, (a : Int), tok, ton, toat, pipe, ⟨ra, rn, rc⟩, now, calls, over, ask, cn, ⟨ga, gn, gc⟩, ⟨ka, kn, kc⟩, cin⟩, .slice (some ⟨b, o, none⟩) 2 2] w (RunRead (lineS ⟨⟨VA, bs.length, vc⟩, ⟨none, 0, 0⟩, ⟨none, 0, 0⟩, ⟨la, ln, lc⟩, status, out, st D, (a : Int), tok, ton, toat, pipe, ⟨ra, rn, rc⟩, now, calls, over, ask, cn, ⟨ga, gn, gc⟩, ⟨ka, kn, kc⟩, cin⟩ D a) bs' w) := by
  have hlt : b < w0.heap.size := cell_lt' (hL.read (Below.refl _ _) 0 (by simp))
  have d0 : ∀ w1, Below w0.heap.size w0 w1 → w1.cell? ⟨b, o, none⟩ = some (.string ⟨#[114, 101, 97, 100]⟩) := fun w1 h => hL.read (w := w1) h 0 (by simp)
  have his := fun w1 h => is_c [114, 101, 97, 100] w0 w1 hG h
  rw [show owns.contains [114, 101, 97, 100] = true by decide +kernel] at his
  have hcal := fun w1 h => read_yes VA vc la ln lc status out D a tok ton toat pipe ra rn rc now calls over ask cn ga gn gc ka kn kc cin bs bs' NM b (o + 1) 1 w0 w1 hB hL.tail h (Nat.le_refl _) hbig hle hl hne hnm hnl hput
  have hz : lineS ⟨⟨VA, bs.length, vc⟩, ⟨none, 0, 0⟩, ⟨none, 0, 0⟩, ⟨la, ln, lc⟩, status, out, st D, (a : Int), tok, ton, toat, pipe, ⟨ra, rn, rc⟩, now, calls, over, ask, cn, ⟨ga, gn, gc⟩, ⟨ka, kn, kc⟩, cin⟩ D a = { (⟨⟨VA, bs.length, vc⟩, ⟨none, 0, 0⟩, ⟨none, 0, 0⟩, ⟨la, ln, lc⟩, status, out, st D, (a : Int), tok, ton, toat, pipe, ⟨ra, rn, rc⟩, now, calls, over, ask, cn, ⟨ga, gn, gc⟩, ⟨ka, kn, kc⟩, cin⟩ : Sta) with inat := ((D.length - (restZ (D.drop a)).length : Nat) : Int) } := by unfold lineS; rw [if_neg hne]
  rw [hz]
  rw [hz] at hcal
  clear hz
  generalize ((D.length - (restZ (D.drop a)).length : Nat) : Int) = na at *
  have HCAL := Lib.hid hcal; clear hcal hB hput hne hle hl hnm hnl
  have hbw : b < w.heap.size := Nat.lt_of_lt_of_le hlt hb.size
  have k0 := d0 w hb
  have HIS := Lib.hid his; have HD := Lib.hid d0; have H0 := Lib.hid hb
  clear his d0 hb hG hlt hL
  go_enter Tryz.func9, Tryz.ntmps9
  go_wp2_with (first
    | (go_at_call 14; refine (HIS.out _ ((H0.out.alloc H0.out.size _).alloc (by have := H0.out.size; simp; omega) _)).mono ?_; rintro e w1 ⟨rfl, hb1⟩; have HW1 := Lib.hid (((H0.out.alloc H0.out.size _).alloc (by have := H0.out.size; simp; omega) _).trans (hb1.mono (by have := H0.out.size; simp; omega))); have k1 := HD.out w1 HW1.out; have HS1 : Hid (IsSt w1 w.heap.size ⟨⟨VA, bs.length, vc⟩, ⟨none, 0, 0⟩, ⟨none, 0, 0⟩, ⟨la, ln, lc⟩, status, out, st D, (a : Int), tok, ton, toat, pipe, ⟨ra, rn, rc⟩, now, calls, over, ask, cn, ⟨ga, gn, gc⟩, ⟨ka, kn, kc⟩, cin⟩) := own_blk hb1 (blk2 w _ _); have HR1 : Hid (IsSt w1 (w.heap.size + 1) zeroS) := own_blk hb1 (blk3 w _ _); have HX1 := Lib.hid ((((Below.refl w.heap.size w).alloc (Nat.le_refl _) _).alloc (by simp) _).trans (hb1.mono (by simp; omega))); have hz1 := hb1.size; rw [alloc2_size] at hz1; clear hb1)
    | (go_at_call 22; refine (HCAL.out _ HW1.out).mono ?_; rintro e w2 ⟨A', c', rfl, hc', hB', hh', hb2⟩; have HB2 := Lib.hid hB'; have HC2 := Lib.hid hc'; have HH2 := Lib.hid hh'; clear hB' hc' hh'; have HR2 := Lib.hid (HR1.out.keep hb2); have HX2 := Lib.hid (HX1.out.trans (hb2.mono HX1.out.size)); clear hb2)
    | (refine wpList_load_row rfl 39 _ rfl (w.heap.size) rfl 39 _ (0, 0) _ HS1.out Tryz.underlying39 rfl sta_size ?_)
    | (refine wpList_store_row rfl 39 _ _ rfl (w.heap.size + 1) _ rfl rfl 39 _ HR2.out sta_size rfl (sta_one ⟨⟨A', bs'.length, c'⟩, ⟨none, 0, 0⟩, ⟨none, 0, 0⟩, ⟨la, ln, lc⟩, 0, out, st D, na, tok, ton, toat, pipe, ⟨ra, rn, rc⟩, now, calls, over, ask, cn, ⟨ga, gn, gc⟩, ⟨ka, kn, kc⟩, cin⟩) ?_))
  refine bodyPost_ret (v := .tuple #[Sta.val ⟨⟨A', bs'.length, c'⟩, ⟨none, 0, 0⟩, ⟨none, 0, 0⟩, ⟨la, ln, lc⟩, 0, out, st D, na, tok, ton, toat, pipe, ⟨ra, rn, rc⟩, now, calls, over, ask, cn, ⟨ga, gn, gc⟩, ⟨ka, kn, kc⟩, cin⟩, .int .i64 0, .int .i64 0]) (results_cell_tmp2 Tryz.results9 _ _ (w.heap.size + 1) 39 _ (0, 0) _ rfl (HR2.out.row (s' := ⟨⟨A', bs'.length, c'⟩, ⟨none, 0, 0⟩, ⟨none, 0, 0⟩, ⟨la, ln, lc⟩, 0, out, st D, na, tok, ton, toat, pipe, ⟨ra, rn, rc⟩, now, calls, over, ask, cn, ⟨ga, gn, gc⟩, ⟨ka, kn, kc⟩, cin⟩) _ rfl) Tryz.underlying39 rfl sta_size) rfl ⟨A', c', rfl, HC2.out, ?_, ?_, ?_⟩
  · exact HB2.out.far HH2.out (by simp) (fun k hk => setRow_other _ _ _ _ (by omega))
  · exact fun a ha => Nat.le_trans (by omega) (HH2.out a ha)
  · exact below_setRow HX2.out (by omega) _

set_option maxHeartbeats 6400000 in
set_option maxRecDepth 100000 in
theorem run_read_none (VA : Option Addr) (vc : Nat) (la : Option Addr) (ln lc : Nat) (status : Int) (out : ByteArray) (D : Str) (a : Nat) (tok : Int) (ton : ByteArray) (toat : Int) (pipe : ByteArray) (ra : Option Addr) (rn rc : Nat) (now calls : Int) (over ask : Bool) (cn : Int) (ga : Option Addr) (gn gc : Nat) (ka : Option Addr) (kn kc : Nat) (cin : ByteArray) (bs : List Bd) (NM : Str) (b o : Nat) (w0 w : World) (hG : Gb w0) (hL : IsL w0 (some ⟨b, o, none⟩) [sRead, NM]) (hb : Below w0.heap.size w0 w) (hnl : NM.length ≤ 1000000) (hle : a ≤ D.length) (hl : D.length ≤ 1000000) (hne : D.drop a = []) (hnm : isName NM = true) :
    Calls Tryz.prog 9 #[Sta.val ⟨⟨VA, bs.length, vc⟩, ⟨none, 0, 0⟩, ⟨none, 0, 0⟩, ⟨la, ln, lc⟩, status, out, st D, (a : Int), tok, ton, toat, pipe, ⟨ra, rn, rc⟩, now, calls, over, ask, cn, ⟨ga, gn, gc⟩, ⟨ka, kn, kc⟩, cin⟩, .slice (some ⟨b, o, none⟩) 2 2] w fun e w' => e = ran { (⟨⟨VA, bs.length, vc⟩, ⟨none, 0, 0⟩, ⟨none, 0, 0⟩, ⟨la, ln, lc⟩, status, out, st D, (a : Int), tok, ton, toat, pipe, ⟨ra, rn, rc⟩, now, calls, over, ask, cn, ⟨ga, gn, gc⟩, ⟨ka, kn, kc⟩, cin⟩ : Sta) with status := 1 } 0 0 ∧ Below w.heap.size w w' := by
  have hlt : b < w0.heap.size := cell_lt' (hL.read (Below.refl _ _) 0 (by simp))
  have d0 : ∀ w1, Below w0.heap.size w0 w1 → w1.cell? ⟨b, o, none⟩ = some (.string ⟨#[114, 101, 97, 100]⟩) := fun w1 h => hL.read (w := w1) h 0 (by simp)
  have his := fun w1 h => is_c [114, 101, 97, 100] w0 w1 hG h
  rw [show owns.contains [114, 101, 97, 100] = true by decide +kernel] at his
  have hcal := fun w1 h => read_none VA vc la ln lc status out D a tok ton toat pipe ra rn rc now calls over ask cn ga gn gc ka kn kc cin bs NM b (o + 1) 1 w0 w1 hL.tail h (Nat.le_refl _) hle hl hne hnm hnl
  have HCAL := Lib.hid hcal; clear hcal hne hle hl hnm hnl
  have hbw : b < w.heap.size := Nat.lt_of_lt_of_le hlt hb.size
  have k0 := d0 w hb
  have HIS := Lib.hid his; have HD := Lib.hid d0; have H0 := Lib.hid hb
  clear his d0 hb hG hlt hL
  go_enter Tryz.func9, Tryz.ntmps9
  go_wp2_with (first
    | (go_at_call 14; refine (HIS.out _ ((H0.out.alloc H0.out.size _).alloc (by have := H0.out.size; simp; omega) _)).mono ?_; rintro e w1 ⟨rfl, hb1⟩; have HW1 := Lib.hid (((H0.out.alloc H0.out.size _).alloc (by have := H0.out.size; simp; omega) _).trans (hb1.mono (by have := H0.out.size; simp; omega))); have k1 := HD.out w1 HW1.out; have HS1 : Hid (IsSt w1 w.heap.size ⟨⟨VA, bs.length, vc⟩, ⟨none, 0, 0⟩, ⟨none, 0, 0⟩, ⟨la, ln, lc⟩, status, out, st D, (a : Int), tok, ton, toat, pipe, ⟨ra, rn, rc⟩, now, calls, over, ask, cn, ⟨ga, gn, gc⟩, ⟨ka, kn, kc⟩, cin⟩) := own_blk hb1 (blk2 w _ _); have HR1 : Hid (IsSt w1 (w.heap.size + 1) zeroS) := own_blk hb1 (blk3 w _ _); have HX1 := Lib.hid ((((Below.refl w.heap.size w).alloc (Nat.le_refl _) _).alloc (by simp) _).trans (hb1.mono (by simp; omega))); have hz1 := hb1.size; rw [alloc2_size] at hz1; clear hb1)
    | (go_at_call 22; refine (HCAL.out _ HW1.out).mono ?_; rintro e w2 ⟨rfl, hb2⟩; have HR2 := Lib.hid (HR1.out.keep hb2); have HX2 := Lib.hid (HX1.out.trans (hb2.mono HX1.out.size)); clear hb2)
    | (refine wpList_load_row rfl 39 _ rfl (w.heap.size) rfl 39 _ (0, 0) _ HS1.out Tryz.underlying39 rfl sta_size ?_)
    | (refine wpList_store_row rfl 39 _ _ rfl (w.heap.size + 1) _ rfl rfl 39 _ HR2.out sta_size rfl (sta_one ⟨⟨VA, bs.length, vc⟩, ⟨none, 0, 0⟩, ⟨none, 0, 0⟩, ⟨la, ln, lc⟩, 1, out, st D, (a : Int), tok, ton, toat, pipe, ⟨ra, rn, rc⟩, now, calls, over, ask, cn, ⟨ga, gn, gc⟩, ⟨ka, kn, kc⟩, cin⟩) ?_))
  refine bodyPost_ret (v := .tuple #[Sta.val ⟨⟨VA, bs.length, vc⟩, ⟨none, 0, 0⟩, ⟨none, 0, 0⟩, ⟨la, ln, lc⟩, 1, out, st D, (a : Int), tok, ton, toat, pipe, ⟨ra, rn, rc⟩, now, calls, over, ask, cn, ⟨ga, gn, gc⟩, ⟨ka, kn, kc⟩, cin⟩, .int .i64 0, .int .i64 0]) (results_cell_tmp2 Tryz.results9 _ _ (w.heap.size + 1) 39 _ (0, 0) _ rfl (HR2.out.row (s' := ⟨⟨VA, bs.length, vc⟩, ⟨none, 0, 0⟩, ⟨none, 0, 0⟩, ⟨la, ln, lc⟩, 1, out, st D, (a : Int), tok, ton, toat, pipe, ⟨ra, rn, rc⟩, now, calls, over, ask, cn, ⟨ga, gn, gc⟩, ⟨ka, kn, kc⟩, cin⟩) _ rfl) Tryz.underlying39 rfl sta_size) rfl ⟨rfl, below_setRow HX2.out (by omega) _⟩

set_option maxHeartbeats 6400000 in
set_option maxRecDepth 100000 in
theorem run_read_bad (VA : Option Addr) (vc : Nat) (la : Option Addr) (ln lc : Nat) (status : Int) (out : ByteArray) (D : Str) (a : Nat) (tok : Int) (ton : ByteArray) (toat : Int) (pipe : ByteArray) (ra : Option Addr) (rn rc : Nat) (now calls : Int) (over ask : Bool) (cn : Int) (ga : Option Addr) (gn gc : Nat) (ka : Option Addr) (kn kc : Nat) (cin : ByteArray) (bs : List Bd) (NM : Str) (b o : Nat) (w0 w : World) (hG : Gb w0) (hL : IsL w0 (some ⟨b, o, none⟩) [sRead, NM]) (hb : Below w0.heap.size w0 w) (hnl : NM.length ≤ 1000000) (hnm : isName NM = false) :
    Calls Tryz.prog 9 #[Sta.val ⟨⟨VA, bs.length, vc⟩, ⟨none, 0, 0⟩, ⟨none, 0, 0⟩, ⟨la, ln, lc⟩, status, out, st D, (a : Int), tok, ton, toat, pipe, ⟨ra, rn, rc⟩, now, calls, over, ask, cn, ⟨ga, gn, gc⟩, ⟨ka, kn, kc⟩, cin⟩, .slice (some ⟨b, o, none⟩) 2 2] w fun e w' => e = ran { (⟨⟨VA, bs.length, vc⟩, ⟨none, 0, 0⟩, ⟨none, 0, 0⟩, ⟨la, ln, lc⟩, status, out, st D, (a : Int), tok, ton, toat, pipe, ⟨ra, rn, rc⟩, now, calls, over, ask, cn, ⟨ga, gn, gc⟩, ⟨ka, kn, kc⟩, cin⟩ : Sta) with status := 2 } 0 0 ∧ Below w.heap.size w w' := by
  have hlt : b < w0.heap.size := cell_lt' (hL.read (Below.refl _ _) 0 (by simp))
  have d0 : ∀ w1, Below w0.heap.size w0 w1 → w1.cell? ⟨b, o, none⟩ = some (.string ⟨#[114, 101, 97, 100]⟩) := fun w1 h => hL.read (w := w1) h 0 (by simp)
  have his := fun w1 h => is_c [114, 101, 97, 100] w0 w1 hG h
  rw [show owns.contains [114, 101, 97, 100] = true by decide +kernel] at his
  have hcal := fun w1 h => read_bad VA vc la ln lc status out D a tok ton toat pipe ra rn rc now calls over ask cn ga gn gc ka kn kc cin bs NM b (o + 1) 1 w0 w1 hL.tail h (Nat.le_refl _) hnm hnl
  have HCAL := Lib.hid hcal; clear hcal hnm hnl
  have hbw : b < w.heap.size := Nat.lt_of_lt_of_le hlt hb.size
  have k0 := d0 w hb
  have HIS := Lib.hid his; have HD := Lib.hid d0; have H0 := Lib.hid hb
  clear his d0 hb hG hlt hL
  go_enter Tryz.func9, Tryz.ntmps9
  go_wp2_with (first
    | (go_at_call 14; refine (HIS.out _ ((H0.out.alloc H0.out.size _).alloc (by have := H0.out.size; simp; omega) _)).mono ?_; rintro e w1 ⟨rfl, hb1⟩; have HW1 := Lib.hid (((H0.out.alloc H0.out.size _).alloc (by have := H0.out.size; simp; omega) _).trans (hb1.mono (by have := H0.out.size; simp; omega))); have k1 := HD.out w1 HW1.out; have HS1 : Hid (IsSt w1 w.heap.size ⟨⟨VA, bs.length, vc⟩, ⟨none, 0, 0⟩, ⟨none, 0, 0⟩, ⟨la, ln, lc⟩, status, out, st D, (a : Int), tok, ton, toat, pipe, ⟨ra, rn, rc⟩, now, calls, over, ask, cn, ⟨ga, gn, gc⟩, ⟨ka, kn, kc⟩, cin⟩) := own_blk hb1 (blk2 w _ _); have HR1 : Hid (IsSt w1 (w.heap.size + 1) zeroS) := own_blk hb1 (blk3 w _ _); have HX1 := Lib.hid ((((Below.refl w.heap.size w).alloc (Nat.le_refl _) _).alloc (by simp) _).trans (hb1.mono (by simp; omega))); have hz1 := hb1.size; rw [alloc2_size] at hz1; clear hb1)
    | (go_at_call 22; refine (HCAL.out _ HW1.out).mono ?_; rintro e w2 ⟨rfl, hb2⟩; have HR2 := Lib.hid (HR1.out.keep hb2); have HX2 := Lib.hid (HX1.out.trans (hb2.mono HX1.out.size)); clear hb2)
    | (refine wpList_load_row rfl 39 _ rfl (w.heap.size) rfl 39 _ (0, 0) _ HS1.out Tryz.underlying39 rfl sta_size ?_)
    | (refine wpList_store_row rfl 39 _ _ rfl (w.heap.size + 1) _ rfl rfl 39 _ HR2.out sta_size rfl (sta_one ⟨⟨VA, bs.length, vc⟩, ⟨none, 0, 0⟩, ⟨none, 0, 0⟩, ⟨la, ln, lc⟩, 2, out, st D, (a : Int), tok, ton, toat, pipe, ⟨ra, rn, rc⟩, now, calls, over, ask, cn, ⟨ga, gn, gc⟩, ⟨ka, kn, kc⟩, cin⟩) ?_))
  refine bodyPost_ret (v := .tuple #[Sta.val ⟨⟨VA, bs.length, vc⟩, ⟨none, 0, 0⟩, ⟨none, 0, 0⟩, ⟨la, ln, lc⟩, 2, out, st D, (a : Int), tok, ton, toat, pipe, ⟨ra, rn, rc⟩, now, calls, over, ask, cn, ⟨ga, gn, gc⟩, ⟨ka, kn, kc⟩, cin⟩, .int .i64 0, .int .i64 0]) (results_cell_tmp2 Tryz.results9 _ _ (w.heap.size + 1) 39 _ (0, 0) _ rfl (HR2.out.row (s' := ⟨⟨VA, bs.length, vc⟩, ⟨none, 0, 0⟩, ⟨none, 0, 0⟩, ⟨la, ln, lc⟩, 2, out, st D, (a : Int), tok, ton, toat, pipe, ⟨ra, rn, rc⟩, now, calls, over, ask, cn, ⟨ga, gn, gc⟩, ⟨ka, kn, kc⟩, cin⟩) _ rfl) Tryz.underlying39 rfl sta_size) rfl ⟨rfl, below_setRow HX2.out (by omega) _⟩

set_option maxHeartbeats 800000 in
set_option maxRecDepth 100000 in
theorem texts_nil (w : World) : Calls Tryz.prog 27 #[.slice none 0 0, .slice none 0 0] w fun e w' => e = .returned (.bool true) ∧ w' = w := by
  go_enter Tryz.func27, Tryz.ntmps27
  go_wp2
  go_loop [5] (fun i => i = .int .i64 0) (fun _ => 0)
  case atStart => rfl
  case round =>
    obtain rfl := hrel
    go_wp2
    go_ret
    exact ⟨rfl, rfl⟩

set_option maxHeartbeats 3200000 in
set_option maxRecDepth 100000 in
theorem same_env (bs : List Bd) (A B : Option Addr) (n c d : Nat) (w0 w : World) (hA : IsB w0 A bs) (hB : IsB w0 B bs) (hn : bs.length = n) (hb : Below w0.heap.size w0 w) (hbig : n ≤ 100000) :
    Calls Tryz.prog 10 #[.agg #[.slice A n c, .slice none 0 0, .slice none 0 0], .agg #[.slice B n d, .slice none 0 0, .slice none 0 0]] w fun e w' => e = .returned (.bool true) ∧ Below w.heap.size w w' := by
  have hv := fun w1 h => vars_same bs A B n c d w0 w1 hA hB hn h hbig
  have HV := Lib.hid hv; have H0 := Lib.hid hb
  clear hv hA hB hn hb
  go_enter Tryz.func10, Tryz.ntmps10
  go_wp2_with (first
    | (go_at_call 26; refine (HV.out _ ((H0.out.alloc H0.out.size _).alloc (by have := H0.out.size; simp; omega) _)).mono ?_; rintro e w1 ⟨rfl, k, rfl⟩)
    | (go_at_call 27; refine (texts_nil _).mono ?_; rintro e w2 ⟨rfl, rfl⟩))
  go_loopw [5] (fun i wr => i = .int .i64 0 ∧ Hid (Below w.heap.size w wr) ∧ wr.cell? ⟨w.heap.size, 2, none⟩ = some (.slice none 0 0)) (fun _ _ => 0)
  case atStart =>
    refine ⟨rfl, Lib.hid (bel_drewN (below_alloc2 w _ _) k), ?_⟩
    simp
  case round =>
    obtain ⟨rfl, HB, hc⟩ := hrel
    go_wp2
    go_ret
    exact ⟨rfl, HB.out⟩
end Go.Proofs.YtcpafdcghlpabaaGreatDoor.Bu
