/-
The walks of built.Run at its commands. (Written by gen_bu6.py.)
-/
import Derived.Test.YtcpafdcghlpabaaGreatDoorBu5
import Derived.Laws.Rows
import Derived.Laws.Tables
import Derived.Laws.CopyOwn
set_option linter.unusedVariables false
set_option linter.unusedSimpArgs false
namespace Go.Proofs.YtcpafdcghlpabaaGreatDoor.Bu
open Go.RowKit Go.Shelf Go.Proofs.YtcpafdcghlpabaaGreatDoor.Ar

/-- What Run hands back. -/
@[reducible] def ran (s : Sta) (act err : Int) : Ending := .returned (.tuple #[s.val, .int .i64 act, .int .i64 err])

theorem own_blk {W w1 : World} (hb : Below W.heap.size W w1) {g : Nat} {o : Obj} (h : W.heap[g]? = some o) : w1.heap[g]? = some o := (hb.block g (blk_lt h)).trans h
theorem blk2 (w : World) (X Y : Obj) : ((w.alloc X).alloc Y).heap[w.heap.size]? = some X := (Below.heap_alloc _ _ _ (by simp)).trans (blk_new w X)
theorem blk3 (w : World) (X Y : Obj) : ((w.alloc X).alloc Y).heap[w.heap.size + 1]? = some Y := by
  have := blk_new (w.alloc X) Y
  rwa [show (w.alloc X).heap.size = w.heap.size + 1 from by simp] at this

/-- The rest of arguments, as a slice behind the first of them. -/
theorem IsL.rest {w0 : World} {b o n : Nat} {x : Str} {xs : List Str} (h : IsL w0 (some ⟨b, o, none⟩) (x :: xs)) (hn : xs.length = n) : IsL w0 (some ⟨b, o + 1, none⟩) xs ∧ (n = 0 → IsL w0 (some ⟨b, o, none⟩) xs) :=
  ⟨h.tail, fun h0 => by
    obtain rfl : xs = [] := List.eq_nil_of_length_eq_zero (by omega)
    exact IsL.nil _ _⟩

theorem results_cell_tmp2 {P : Program} {fn : Func} {p u v : Tmp} {ty : TypeId} (h : fn.results = #[.cell p ty, .tmp u, .tmp v]) (tmps : Array Value) (w : World) (g : Nat) (t : TypeId) (cs : Array Value) (fr : Nat × Nat) (d : TypeDesc)
    (hp : tmps.getD p undef = .pointer (some ⟨g, 0, none⟩)) (hg : w.heap[g]? = some (.cells cs t fr))
    (hu : P.underlying ty = some d) (hd : (match d with | .struct _ | .array _ _ => true | _ => false) = true) (hi : (P.info? ty).map (·.size) = some cs.size) :
    (results fn tmps).run P w = .ok (.tuple #[.agg cs, tmps.getD u undef, tmps.getD v undef]) w := by
  have hp' : tmps[p]?.getD undef = .pointer (some ⟨g, 0, none⟩) := by simpa using hp
  simp [results, h, hp', asAddr, run_loadVar_row w g t ty cs fr d hg hu hd hi]

theorem IsSt.row {w : World} {g : Nat} {s s' : Sta} (h : IsSt w g s) (cs : Array Value) (hc : Sta.val s' = .agg cs) : IsSt (w.setRow g cs) g s' := by
  have := setRow_heap w g _ cs _ _ h
  injection hc with hc
  rw [← hc] at this ⊢
  exact this
theorem IsSt.other {w : World} {g k : Nat} {s : Sta} (h : IsSt w g s) (cs : Array Value) (hk : g ≠ k) : IsSt (w.setRow k cs) g s := (setRow_other w k g cs hk).trans h
theorem sta_one (s : Sta) : (#[.slice s.vars.a s.vars.n s.vars.c, .slice s.args.a s.args.n s.args.c, .slice s.funs.a s.funs.n s.funs.c, .slice s.files.a s.files.n s.files.c, .int .i64 s.status, .string s.out, .string s.ind, .int .i64 s.inat, .int .i64 s.tok, .string s.ton, .int .i64 s.toat, .string s.pipe, .slice s.frames.a s.frames.n s.frames.c, .int .i64 s.now, .int .i64 s.calls, .bool s.over, .bool s.ask, .int .i64 s.cn, .slice s.cargv.a s.cargv.n s.cargv.c, .slice s.cvars.a s.cvars.n s.cvars.c, .string s.cin] : Array Value).all (·.oneCell') = true := by simp [Value.oneCell']
theorem sta_size : (Tryz.prog.info? 39).map (·.size) = some 21 := by kernel_rfl

set_option maxHeartbeats 3200000 in
set_option maxRecDepth 100000 in
theorem run_bracket (has : Str → Bool) (s : Sta) (xs : List Str) (A : Option Addr) (n c : Nat) (w0 w : World) (hG : Gb w0) (hF : GetOk has w0 s.files.v) (hL : IsL w0 A ([91] :: xs)) (hb : Below w0.heap.size w0 w) (hn : xs.length = n) (hc : n + 1 ≤ c) (hbig : n ≤ 10000) :
    Calls Tryz.prog 9 #[s.val, .slice A (n + 1) c] w fun e w' => e = ran { s with status := bracketZ has xs } 0 0 ∧ Below w.heap.size w w' := by
  obtain ⟨b, o, rfl, hlt, hc0⟩ := hL.head
  clear hc0
  have d0 : ∀ w1, Below w0.heap.size w0 w1 → w1.cell? ⟨b, o, none⟩ = some (.string ⟨#[91]⟩) := fun w1 h => hL.read (w := w1) h 0 (by simp)
  have his := fun w1 h => is_c [91] w0 w1 hG h
  rw [show owns.contains [91] = true by decide +kernel] at his
  obtain ⟨hr1, hr2⟩ := hL.rest hn
  have hbr : ∀ A' c', n ≤ c' → IsL w0 A' xs → ∀ w1, Below w0.heap.size w0 w1 → Calls Tryz.prog 23 #[.slice A' n c', .slice s.files.a s.files.n s.files.c] w1 fun e w' => e = .returned (.int .i64 (bracketZ has xs)) ∧ Below w1.heap.size w1 w' := fun A' c' hc' hL' w1 h => by
    have := bracket_c has s.files.v xs A' c' w0 w1 hG hF hL' h (by omega) (by omega)
    rwa [hn] at this
  generalize bracketZ has xs = r at *
  have hbw : b < w.heap.size := Nat.lt_of_lt_of_le hlt hb.size
  have k0 := d0 w hb
  have HIS := Lib.hid his; have HD := Lib.hid d0; have H0 := Lib.hid hb; have HBR := Lib.hid hbr; have HT1 := Lib.hid hr1; have HT2 := Lib.hid hr2
  clear his d0 hb hL hG hF hn hbr hlt hr1 hr2
  obtain ⟨⟨va, vn, vc⟩, ⟨aa, an, ac⟩, ⟨fa, fn, fc⟩, ⟨la, ln, lc⟩, status, out, ind, inat, tok, ton, toat, pipe, ⟨ra, rn, rc⟩, now, calls, over, ask, cn, ⟨ga, gn, gc⟩, ⟨ka, kn, kc⟩, cin⟩ := s
  have hn0 : ((n : Int) + 1 == 0) = false := by simp; omega
  rcases (show c = 1 ∧ n = 0 ∨ 2 ≤ c by omega) with ⟨rfl, rfl⟩ | hc2
  · have HT := Lib.hid (HT2.out rfl)
    clear HT1 HT2
    go_enter Tryz.func9, Tryz.ntmps9
    go_wp2_with (first
      | (go_at_call 14; refine (HIS.out _ ((H0.out.alloc H0.out.size _).alloc (by have := H0.out.size; simp; omega) _)).mono ?_; rintro e w1 ⟨rfl, hb1⟩; have HW1 := Lib.hid (((H0.out.alloc H0.out.size _).alloc (by have := H0.out.size; simp; omega) _).trans (hb1.mono (by have := H0.out.size; simp; omega))); have k1 := HD.out w1 HW1.out; have HS1 : Hid (IsSt w1 w.heap.size ⟨⟨va, vn, vc⟩, ⟨aa, an, ac⟩, ⟨fa, fn, fc⟩, ⟨la, ln, lc⟩, status, out, ind, inat, tok, ton, toat, pipe, ⟨ra, rn, rc⟩, now, calls, over, ask, cn, ⟨ga, gn, gc⟩, ⟨ka, kn, kc⟩, cin⟩) := own_blk hb1 (blk2 w _ _); have HR1 : Hid (IsSt w1 (w.heap.size + 1) zeroS) := own_blk hb1 (blk3 w _ _); have k3 := HS1.out.cells.2.2.2.1; have HX1 := Lib.hid ((((Below.refl w.heap.size w).alloc (Nat.le_refl _) _).alloc (by simp) _).trans (hb1.mono (by simp; omega))); clear hb1)
      | (go_at_call 23; refine (HBR.out _ _ (by omega) HT.out _ HW1.out).mono ?_; rintro e w2 ⟨rfl, hb2⟩; have HS2 := Lib.hid (HS1.out.keep hb2); have HR2 := Lib.hid (HR1.out.keep hb2); have k4 := HS2.out.cells.2.2.2.2.1; have kf := HS2.out.f 4; have HS3 := Lib.hid (HS2.out.setStatus r); have HR3 : Hid (IsSt (w2.setCell ⟨w.heap.size, 4, none⟩ (.int .i64 r)) (w.heap.size + 1) zeroS) := (Below.heap_setCell _ _ _ _ (by simp)).trans HR2.out; have HX2 := Lib.hid (HX1.out.trans (hb2.mono HX1.out.size)); clear hb2)
      | (refine wpList_load_row rfl 39 _ rfl w.heap.size rfl 39 _ (0, 0) _ HS3.out Tryz.underlying39 rfl sta_size ?_)
      | (refine wpList_store_row rfl 39 _ _ rfl (w.heap.size + 1) _ rfl rfl 39 _ HR3.out sta_size rfl (sta_one ⟨⟨va, vn, vc⟩, ⟨aa, an, ac⟩, ⟨fa, fn, fc⟩, ⟨la, ln, lc⟩, r, out, ind, inat, tok, ton, toat, pipe, ⟨ra, rn, rc⟩, now, calls, over, ask, cn, ⟨ga, gn, gc⟩, ⟨ka, kn, kc⟩, cin⟩) ?_))
    refine bodyPost_ret (v := .tuple #[Sta.val ⟨⟨va, vn, vc⟩, ⟨aa, an, ac⟩, ⟨fa, fn, fc⟩, ⟨la, ln, lc⟩, r, out, ind, inat, tok, ton, toat, pipe, ⟨ra, rn, rc⟩, now, calls, over, ask, cn, ⟨ga, gn, gc⟩, ⟨ka, kn, kc⟩, cin⟩, .int .i64 0, .int .i64 0]) (results_cell_tmp2 Tryz.results9 _ _ (w.heap.size + 1) 39 _ (0, 0) _ rfl (HR3.out.row (s' := ⟨⟨va, vn, vc⟩, ⟨aa, an, ac⟩, ⟨fa, fn, fc⟩, ⟨la, ln, lc⟩, r, out, ind, inat, tok, ton, toat, pipe, ⟨ra, rn, rc⟩, now, calls, over, ask, cn, ⟨ga, gn, gc⟩, ⟨ka, kn, kc⟩, cin⟩) _ rfl) Tryz.underlying39 rfl sta_size) rfl ⟨rfl, ?_⟩
    exact below_setRow (HX2.out.setCell (Nat.le_refl _) _) (by omega) _
  · have HT := Lib.hid (HT1.out)
    clear HT1 HT2
    go_enter Tryz.func9, Tryz.ntmps9
    go_wp2_with (first
      | (go_at_call 14; refine (HIS.out _ ((H0.out.alloc H0.out.size _).alloc (by have := H0.out.size; simp; omega) _)).mono ?_; rintro e w1 ⟨rfl, hb1⟩; have HW1 := Lib.hid (((H0.out.alloc H0.out.size _).alloc (by have := H0.out.size; simp; omega) _).trans (hb1.mono (by have := H0.out.size; simp; omega))); have k1 := HD.out w1 HW1.out; have HS1 : Hid (IsSt w1 w.heap.size ⟨⟨va, vn, vc⟩, ⟨aa, an, ac⟩, ⟨fa, fn, fc⟩, ⟨la, ln, lc⟩, status, out, ind, inat, tok, ton, toat, pipe, ⟨ra, rn, rc⟩, now, calls, over, ask, cn, ⟨ga, gn, gc⟩, ⟨ka, kn, kc⟩, cin⟩) := own_blk hb1 (blk2 w _ _); have HR1 : Hid (IsSt w1 (w.heap.size + 1) zeroS) := own_blk hb1 (blk3 w _ _); have k3 := HS1.out.cells.2.2.2.1; have HX1 := Lib.hid ((((Below.refl w.heap.size w).alloc (Nat.le_refl _) _).alloc (by simp) _).trans (hb1.mono (by simp; omega))); clear hb1)
      | (go_at_call 23; refine (HBR.out _ _ (by omega) HT.out _ HW1.out).mono ?_; rintro e w2 ⟨rfl, hb2⟩; have HS2 := Lib.hid (HS1.out.keep hb2); have HR2 := Lib.hid (HR1.out.keep hb2); have k4 := HS2.out.cells.2.2.2.2.1; have kf := HS2.out.f 4; have HS3 := Lib.hid (HS2.out.setStatus r); have HR3 : Hid (IsSt (w2.setCell ⟨w.heap.size, 4, none⟩ (.int .i64 r)) (w.heap.size + 1) zeroS) := (Below.heap_setCell _ _ _ _ (by simp)).trans HR2.out; have HX2 := Lib.hid (HX1.out.trans (hb2.mono HX1.out.size)); clear hb2)
      | (refine wpList_load_row rfl 39 _ rfl w.heap.size rfl 39 _ (0, 0) _ HS3.out Tryz.underlying39 rfl sta_size ?_)
      | (refine wpList_store_row rfl 39 _ _ rfl (w.heap.size + 1) _ rfl rfl 39 _ HR3.out sta_size rfl (sta_one ⟨⟨va, vn, vc⟩, ⟨aa, an, ac⟩, ⟨fa, fn, fc⟩, ⟨la, ln, lc⟩, r, out, ind, inat, tok, ton, toat, pipe, ⟨ra, rn, rc⟩, now, calls, over, ask, cn, ⟨ga, gn, gc⟩, ⟨ka, kn, kc⟩, cin⟩) ?_))
    refine bodyPost_ret (v := .tuple #[Sta.val ⟨⟨va, vn, vc⟩, ⟨aa, an, ac⟩, ⟨fa, fn, fc⟩, ⟨la, ln, lc⟩, r, out, ind, inat, tok, ton, toat, pipe, ⟨ra, rn, rc⟩, now, calls, over, ask, cn, ⟨ga, gn, gc⟩, ⟨ka, kn, kc⟩, cin⟩, .int .i64 0, .int .i64 0]) (results_cell_tmp2 Tryz.results9 _ _ (w.heap.size + 1) 39 _ (0, 0) _ rfl (HR3.out.row (s' := ⟨⟨va, vn, vc⟩, ⟨aa, an, ac⟩, ⟨fa, fn, fc⟩, ⟨la, ln, lc⟩, r, out, ind, inat, tok, ton, toat, pipe, ⟨ra, rn, rc⟩, now, calls, over, ask, cn, ⟨ga, gn, gc⟩, ⟨ka, kn, kc⟩, cin⟩) _ rfl) Tryz.underlying39 rfl sta_size) rfl ⟨rfl, ?_⟩
    exact below_setRow (HX2.out.setCell (Nat.le_refl _) _) (by omega) _
end Go.Proofs.YtcpafdcghlpabaaGreatDoor.Bu
