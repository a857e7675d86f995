/-
The walks of slices.Clone over texts, of built.set and of built.shift. (Written by gen_bu9.py.)
-/
import Derived.Test.YtcpafdcghlpabaaGreatDoorBu8
set_option linter.unusedVariables false
set_option linter.unusedSimpArgs false
namespace Go.Proofs.YtcpafdcghlpabaaGreatDoor.Bu
open Go.RowKit Go.Shelf Go.Proofs.YtcpafdcghlpabaaGreatDoor.Ar

theorem IsSt.setArgs {w : World} {g : Nat} {s : Sta} (h : IsSt w g s) (x : Sli) : IsSt (w.setCell ⟨g, 1, none⟩ (.slice x.a x.n x.c)) g { s with args := x } := (blk_set h 1 _).trans rfl

/-- Every block from base on. -/
def High (base : Nat) (A : Option Addr) : Prop := ∀ a, A = some a → base ≤ a.block
theorem IsL.far {w w' : World} {A : Option Addr} {xs : List Str} {base : Nat} (h : IsL w A xs) (hi : High base A) (hs : w.heap.size ≤ w'.heap.size) (hk : ∀ k, base ≤ k → w'.heap[k]? = w.heap[k]?) : IsL w' A xs :=
  ⟨fun j hj => by
    obtain ⟨b, o, e, hlt, hc⟩ := h.cell j hj
    refine ⟨b, o, e, Nat.lt_of_lt_of_le hlt hs, ?_⟩
    rw [World.cell?_of_block (w := w) (hk b (hi _ e))]
    exact hc, h.short⟩
theorem own_isL2 {w : World} {base : Nat} {e : TypeId} {n : Nat} {v : Value} {ws : List Str} (h : w.ownsRow base e 1 v n (ws.map fun l => Value.string (st l))) (hs : ∀ x ∈ ws, x.length ≤ 140737488351232) :
    ∃ A c, v = .slice A n c ∧ n ≤ c ∧ IsL w A ws ∧ High base A := by
  obtain ⟨A, c, h1, h2, _, h4⟩ := own_isL h hs
  refine ⟨A, c, h1, h2, h4, fun a ha => ?_⟩
  subst ha h1
  exact (h.lt a.block rfl).1

/-- A copy of texts. -/
theorem clone_c (xs : List Str) (A : Option Addr) (n c : Nat) (w0 w : World) (hL : IsL w0 A xs) (hn : xs.length = n) (hb : Below w0.heap.size w0 w) (hbig : n ≤ 1000000) :
    Calls Tryz.prog 46 #[.slice A n c] w fun e w' => ∃ A' c', e = .returned (.slice A' n c') ∧ n ≤ c' ∧ IsL w' A' xs ∧ High w.heap.size A' ∧ Below w.heap.size w w' := by
  have hz : ∀ v' w', w'.ownsRow w.heap.size 9 1 v' n (xs.map fun l => Value.string (st l)) → ∃ A' c', v' = .slice A' n c' ∧ n ≤ c' ∧ IsL w' A' xs ∧ High w.heap.size A' := fun v' w' h =>
    own_isL2 h (fun x hx => by
      obtain ⟨j, hj, rfl⟩ := List.getElem_of_mem hx
      exact hL.short j hj)
  by_cases h0 : n = 0
  · subst h0
    obtain rfl : xs = [] := List.eq_nil_of_length_eq_zero hn
    rcases A with _ | a
    · refine (Tryz.slices_Clone_string_nil 0 c w).mono ?_
      rintro e w' ⟨rfl, rfl⟩
      exact ⟨none, 0, rfl, Nat.le_refl _, IsL.nil _ _, (fun _ h => by cases h), Below.refl _ _⟩
    · refine (Tryz.slices_Clone_string_zero a c w).mono ?_
      rintro e w' ⟨v', rfl, ho, _, hB⟩
      obtain ⟨A', c', rfl, h2, h3, h4⟩ := hz v' w' ho
      exact ⟨A', c', rfl, h2, h3, h4, hB⟩
  · obtain ⟨b, o, rfl, _⟩ := hL.cell 0 (by omega)
    refine (Tryz.slices_Clone_string b o n c (xs.map st) w (by simp; omega) (by omega) (fun j hj => ?_)).mono ?_
    · have hj' : j < xs.length := by simpa using hj
      have := hL.read hb j hj'
      rw [this]; simp [List.getD_eq_getElem?_getD, hj']
    · rintro e w' ⟨v', rfl, ho, _, hB⟩
      rw [List.take_of_length_le (by simp; omega), List.map_map] at ho
      obtain ⟨A', c', rfl, h2, h3, h4⟩ := hz v' w' ho
      exact ⟨A', c', rfl, h2, h3, h4, hB⟩

def dashes : Str := [45, 45]
/-- What set is given, without two dashes ahead. -/
def setZ : List Str → List Str
  | [] => []
  | a :: r => if a == dashes then r else a :: r

/-- A machine with these arguments. -/
def SetOk (s : Sta) (ys : List Str) (n : Nat) (w : World) (e : Ending) (w' : World) : Prop := ∃ A' c', e = .returned (Sta.val { s with args := ⟨A', n, c'⟩, status := 0 }) ∧ n ≤ c' ∧ IsL w' A' ys ∧ High w.heap.size A' ∧ Below w.heap.size w w'

set_option maxHeartbeats 3200000 in
set_option maxRecDepth 100000 in
theorem set_0 (s : Sta) (A : Option Addr) (c : Nat) (w : World) :
    Calls Tryz.prog 20 #[s.val, .slice A 0 c] w (SetOk s [] 0 w) := by
  have hcl := fun w1 h => clone_c ([] : List Str) A 0 c w w1 (IsL.nil _ _) rfl h (by omega)
  have HC := Lib.hid hcl; clear hcl
  obtain ⟨⟨va, vn, vc⟩, ⟨aa, an, ac⟩, ⟨fa, fn, fc⟩, ⟨la, ln, lc⟩, status, out, ind, inat, tok, ton, toat, pipe, ⟨ra, rn, rc⟩, now, calls, over, ask, cn, ⟨ga, gn, gc⟩, ⟨ka, kn, kc⟩, cin⟩ := s
  go_enter Tryz.func20, Tryz.ntmps20
  go_wp2_with (first
    | (go_at_call 46; refine (HC.out _ (((Below.refl w.heap.size w).alloc (Nat.le_refl _) _).alloc (by simp) _)).mono ?_; rintro e w1 ⟨A', c', rfl, hc', hL', hh', hb1⟩; have HS1 : Hid (IsSt w1 w.heap.size ⟨⟨va, vn, vc⟩, ⟨aa, an, ac⟩, ⟨fa, fn, fc⟩, ⟨la, ln, lc⟩, status, out, ind, inat, tok, ton, toat, pipe, ⟨ra, rn, rc⟩, now, calls, over, ask, cn, ⟨ga, gn, gc⟩, ⟨ka, kn, kc⟩, cin⟩) := own_blk hb1 (blk2 w _ _); have HR1 : Hid (IsSt w1 (w.heap.size + 1) zeroS) := own_blk hb1 (blk3 w _ _); have k1 := HS1.out.cells.2.1; have k4 := HS1.out.cells.2.2.2.2.1; have kf1 := HS1.out.f 1; have kf4 := HS1.out.f 4; have HS2 := Lib.hid ((HS1.out.setArgs ⟨A', 0, c'⟩).setStatus 0); have HR2 : Hid (IsSt ((w1.setCell ⟨w.heap.size, 1, none⟩ (.slice A' (0) c')).setCell ⟨w.heap.size, 4, none⟩ (.int .i64 0)) (w.heap.size + 1) zeroS) := (Below.heap_setCell _ _ _ _ (by simp)).trans ((Below.heap_setCell _ _ _ _ (by simp)).trans HR1.out); have HX1 := Lib.hid ((((Below.refl w.heap.size w).alloc (Nat.le_refl _) _).alloc (by simp) _).trans (hb1.mono (by simp; omega))); have HL1 := Lib.hid hL'; have HC1 := Lib.hid hc'; have HH1 := Lib.hid hh'; clear hb1 hL' hc' hh')
    | (refine wpList_load_row rfl 39 _ rfl (w.heap.size) rfl 39 _ (0, 0) _ HS2.out Tryz.underlying39 rfl sta_size ?_)
    | (refine wpList_store_row rfl 39 _ _ rfl (w.heap.size + 1) _ rfl rfl 39 _ HR2.out sta_size rfl (sta_one ⟨⟨va, vn, vc⟩, ⟨A', 0, c'⟩, ⟨fa, fn, fc⟩, ⟨la, ln, lc⟩, 0, out, ind, inat, tok, ton, toat, pipe, ⟨ra, rn, rc⟩, now, calls, over, ask, cn, ⟨ga, gn, gc⟩, ⟨ka, kn, kc⟩, cin⟩) ?_))
  refine bodyPost_ret (v := Sta.val ⟨⟨va, vn, vc⟩, ⟨A', 0, c'⟩, ⟨fa, fn, fc⟩, ⟨la, ln, lc⟩, 0, out, ind, inat, tok, ton, toat, pipe, ⟨ra, rn, rc⟩, now, calls, over, ask, cn, ⟨ga, gn, gc⟩, ⟨ka, kn, kc⟩, cin⟩) (results_cell_row Tryz.results20 _ _ (w.heap.size + 1) 39 _ (0, 0) _ rfl (HR2.out.row (s' := ⟨⟨va, vn, vc⟩, ⟨A', 0, c'⟩, ⟨fa, fn, fc⟩, ⟨la, ln, lc⟩, 0, out, ind, inat, tok, ton, toat, pipe, ⟨ra, rn, rc⟩, now, calls, over, ask, cn, ⟨ga, gn, gc⟩, ⟨ka, kn, kc⟩, cin⟩) _ rfl) Tryz.underlying39 rfl sta_size) rfl ⟨A', c', rfl, HC1.out, ?_, ?_, ?_⟩
  · exact HL1.out.far HH1.out (by simp) (fun k hk => by
      have hk' : w.heap.size + 2 ≤ k := by simpa using hk
      rw [setRow_other _ _ _ _ (by omega), Below.heap_setCell _ _ _ _ (by simp; omega), Below.heap_setCell _ _ _ _ (by simp; omega)])
  · exact fun a ha => Nat.le_trans (by simp; omega) (HH1.out a ha)
  · exact below_setRow ((HX1.out.setCell (Nat.le_refl _) _).setCell (Nat.le_refl _) _) (by omega) _

set_option maxHeartbeats 3200000 in
set_option maxRecDepth 100000 in
theorem set_1 (s : Sta) (a : Str) (r : List Str) (A : Option Addr) (n c : Nat) (w0 w : World) (hL : IsL w0 A (a :: r)) (hb : Below w0.heap.size w0 w) (hn : r.length = n) (hc : n + 1 ≤ c) (hbig : n ≤ 10000) (hd : (a == dashes) = false) :
    Calls Tryz.prog 20 #[s.val, .slice A (n + 1) c] w (SetOk s (a :: r) (n + 1) w) := by
  obtain ⟨b, o, rfl, hlt, _⟩ := hL.head
  have k0 : w.cell? ⟨b, o, none⟩ = some (.string (st a)) := hL.read hb 0 (by simp)
  have hbw : b < w.heap.size := Nat.lt_of_lt_of_le hlt hb.size
  have e1 := st_beq a dashes
  rw [hd] at e1
  have n0 : (0 : Int) < (n : Int) + 1 := by omega
  have hcl := fun w1 h => clone_c (a :: r) (some ⟨b, o, none⟩) (n + 1) c w w1 (hL.keep hb) (by simp; omega) h (by omega)
  have HC := Lib.hid hcl; clear hcl
  clear hL hb hlt
  generalize hSt : st a = S at *
  clear hSt
  unfold dashes at e1
  obtain ⟨⟨va, vn, vc⟩, ⟨aa, an, ac⟩, ⟨fa, fn, fc⟩, ⟨la, ln, lc⟩, status, out, ind, inat, tok, ton, toat, pipe, ⟨ra, rn, rc⟩, now, calls, over, ask, cn, ⟨ga, gn, gc⟩, ⟨ka, kn, kc⟩, cin⟩ := s
  go_enter Tryz.func20, Tryz.ntmps20
  go_wp2_with (first
    | (go_at_call 46; refine (HC.out _ (((Below.refl w.heap.size w).alloc (Nat.le_refl _) _).alloc (by simp) _)).mono ?_; rintro e w1 ⟨A', c', rfl, hc', hL', hh', hb1⟩; have HS1 : Hid (IsSt w1 w.heap.size ⟨⟨va, vn, vc⟩, ⟨aa, an, ac⟩, ⟨fa, fn, fc⟩, ⟨la, ln, lc⟩, status, out, ind, inat, tok, ton, toat, pipe, ⟨ra, rn, rc⟩, now, calls, over, ask, cn, ⟨ga, gn, gc⟩, ⟨ka, kn, kc⟩, cin⟩) := own_blk hb1 (blk2 w _ _); have HR1 : Hid (IsSt w1 (w.heap.size + 1) zeroS) := own_blk hb1 (blk3 w _ _); have k1 := HS1.out.cells.2.1; have k4 := HS1.out.cells.2.2.2.2.1; have kf1 := HS1.out.f 1; have kf4 := HS1.out.f 4; have HS2 := Lib.hid ((HS1.out.setArgs ⟨A', (n + 1), c'⟩).setStatus 0); have HR2 : Hid (IsSt ((w1.setCell ⟨w.heap.size, 1, none⟩ (.slice A' ((n + 1)) c')).setCell ⟨w.heap.size, 4, none⟩ (.int .i64 0)) (w.heap.size + 1) zeroS) := (Below.heap_setCell _ _ _ _ (by simp)).trans ((Below.heap_setCell _ _ _ _ (by simp)).trans HR1.out); have HX1 := Lib.hid ((((Below.refl w.heap.size w).alloc (Nat.le_refl _) _).alloc (by simp) _).trans (hb1.mono (by simp; omega))); have HL1 := Lib.hid hL'; have HC1 := Lib.hid hc'; have HH1 := Lib.hid hh'; clear hb1 hL' hc' hh')
    | (refine wpList_load_row rfl 39 _ rfl (w.heap.size) rfl 39 _ (0, 0) _ HS2.out Tryz.underlying39 rfl sta_size ?_)
    | (refine wpList_store_row rfl 39 _ _ rfl (w.heap.size + 1) _ rfl rfl 39 _ HR2.out sta_size rfl (sta_one ⟨⟨va, vn, vc⟩, ⟨A', (n + 1), c'⟩, ⟨fa, fn, fc⟩, ⟨la, ln, lc⟩, 0, out, ind, inat, tok, ton, toat, pipe, ⟨ra, rn, rc⟩, now, calls, over, ask, cn, ⟨ga, gn, gc⟩, ⟨ka, kn, kc⟩, cin⟩) ?_))
  refine bodyPost_ret (v := Sta.val ⟨⟨va, vn, vc⟩, ⟨A', (n + 1), c'⟩, ⟨fa, fn, fc⟩, ⟨la, ln, lc⟩, 0, out, ind, inat, tok, ton, toat, pipe, ⟨ra, rn, rc⟩, now, calls, over, ask, cn, ⟨ga, gn, gc⟩, ⟨ka, kn, kc⟩, cin⟩) (results_cell_row Tryz.results20 _ _ (w.heap.size + 1) 39 _ (0, 0) _ rfl (HR2.out.row (s' := ⟨⟨va, vn, vc⟩, ⟨A', (n + 1), c'⟩, ⟨fa, fn, fc⟩, ⟨la, ln, lc⟩, 0, out, ind, inat, tok, ton, toat, pipe, ⟨ra, rn, rc⟩, now, calls, over, ask, cn, ⟨ga, gn, gc⟩, ⟨ka, kn, kc⟩, cin⟩) _ rfl) Tryz.underlying39 rfl sta_size) rfl ⟨A', c', rfl, HC1.out, ?_, ?_, ?_⟩
  · exact HL1.out.far HH1.out (by simp) (fun k hk => by
      have hk' : w.heap.size + 2 ≤ k := by simpa using hk
      rw [setRow_other _ _ _ _ (by omega), Below.heap_setCell _ _ _ _ (by simp; omega), Below.heap_setCell _ _ _ _ (by simp; omega)])
  · exact fun a ha => Nat.le_trans (by simp; omega) (HH1.out a ha)
  · exact below_setRow ((HX1.out.setCell (Nat.le_refl _) _).setCell (Nat.le_refl _) _) (by omega) _

set_option maxHeartbeats 3200000 in
set_option maxRecDepth 100000 in
theorem set_2 (s : Sta) (a : Str) (r : List Str) (A : Option Addr) (n c : Nat) (w0 w : World) (hL : IsL w0 A (a :: r)) (hb : Below w0.heap.size w0 w) (hn : r.length = n) (hc : n + 1 ≤ c) (hbig : n ≤ 10000) (hc2 : 2 ≤ c) (hd : (a == dashes) = true) :
    Calls Tryz.prog 20 #[s.val, .slice A (n + 1) c] w (SetOk s r n w) := by
  obtain ⟨b, o, rfl, hlt, _⟩ := hL.head
  have k0 : w.cell? ⟨b, o, none⟩ = some (.string (st a)) := hL.read hb 0 (by simp)
  have hbw : b < w.heap.size := Nat.lt_of_lt_of_le hlt hb.size
  have e1 := st_beq a dashes
  rw [hd] at e1
  have n0 : (0 : Int) < (n : Int) + 1 := by omega
  have hcl := fun w1 h => clone_c r (some ⟨b, o + 1, none⟩) n (c - 1) w w1 (hL.keep hb).tail hn h (by omega)
  have HC := Lib.hid hcl; clear hcl
  clear hL hb hlt
  generalize hSt : st a = S at *
  clear hSt
  unfold dashes at e1
  obtain ⟨⟨va, vn, vc⟩, ⟨aa, an, ac⟩, ⟨fa, fn, fc⟩, ⟨la, ln, lc⟩, status, out, ind, inat, tok, ton, toat, pipe, ⟨ra, rn, rc⟩, now, calls, over, ask, cn, ⟨ga, gn, gc⟩, ⟨ka, kn, kc⟩, cin⟩ := s
  go_enter Tryz.func20, Tryz.ntmps20
  go_wp2_with (first
    | (go_at_call 46; refine (HC.out _ (((Below.refl w.heap.size w).alloc (Nat.le_refl _) _).alloc (by simp) _)).mono ?_; rintro e w1 ⟨A', c', rfl, hc', hL', hh', hb1⟩; have HS1 : Hid (IsSt w1 w.heap.size ⟨⟨va, vn, vc⟩, ⟨aa, an, ac⟩, ⟨fa, fn, fc⟩, ⟨la, ln, lc⟩, status, out, ind, inat, tok, ton, toat, pipe, ⟨ra, rn, rc⟩, now, calls, over, ask, cn, ⟨ga, gn, gc⟩, ⟨ka, kn, kc⟩, cin⟩) := own_blk hb1 (blk2 w _ _); have HR1 : Hid (IsSt w1 (w.heap.size + 1) zeroS) := own_blk hb1 (blk3 w _ _); have k1 := HS1.out.cells.2.1; have k4 := HS1.out.cells.2.2.2.2.1; have kf1 := HS1.out.f 1; have kf4 := HS1.out.f 4; have HS2 := Lib.hid ((HS1.out.setArgs ⟨A', n, c'⟩).setStatus 0); have HR2 : Hid (IsSt ((w1.setCell ⟨w.heap.size, 1, none⟩ (.slice A' (n) c')).setCell ⟨w.heap.size, 4, none⟩ (.int .i64 0)) (w.heap.size + 1) zeroS) := (Below.heap_setCell _ _ _ _ (by simp)).trans ((Below.heap_setCell _ _ _ _ (by simp)).trans HR1.out); have HX1 := Lib.hid ((((Below.refl w.heap.size w).alloc (Nat.le_refl _) _).alloc (by simp) _).trans (hb1.mono (by simp; omega))); have HL1 := Lib.hid hL'; have HC1 := Lib.hid hc'; have HH1 := Lib.hid hh'; clear hb1 hL' hc' hh')
    | (refine wpList_load_row rfl 39 _ rfl (w.heap.size) rfl 39 _ (0, 0) _ HS2.out Tryz.underlying39 rfl sta_size ?_)
    | (refine wpList_store_row rfl 39 _ _ rfl (w.heap.size + 1) _ rfl rfl 39 _ HR2.out sta_size rfl (sta_one ⟨⟨va, vn, vc⟩, ⟨A', n, c'⟩, ⟨fa, fn, fc⟩, ⟨la, ln, lc⟩, 0, out, ind, inat, tok, ton, toat, pipe, ⟨ra, rn, rc⟩, now, calls, over, ask, cn, ⟨ga, gn, gc⟩, ⟨ka, kn, kc⟩, cin⟩) ?_))
  refine bodyPost_ret (v := Sta.val ⟨⟨va, vn, vc⟩, ⟨A', n, c'⟩, ⟨fa, fn, fc⟩, ⟨la, ln, lc⟩, 0, out, ind, inat, tok, ton, toat, pipe, ⟨ra, rn, rc⟩, now, calls, over, ask, cn, ⟨ga, gn, gc⟩, ⟨ka, kn, kc⟩, cin⟩) (results_cell_row Tryz.results20 _ _ (w.heap.size + 1) 39 _ (0, 0) _ rfl (HR2.out.row (s' := ⟨⟨va, vn, vc⟩, ⟨A', n, c'⟩, ⟨fa, fn, fc⟩, ⟨la, ln, lc⟩, 0, out, ind, inat, tok, ton, toat, pipe, ⟨ra, rn, rc⟩, now, calls, over, ask, cn, ⟨ga, gn, gc⟩, ⟨ka, kn, kc⟩, cin⟩) _ rfl) Tryz.underlying39 rfl sta_size) rfl ⟨A', c', rfl, HC1.out, ?_, ?_, ?_⟩
  · exact HL1.out.far HH1.out (by simp) (fun k hk => by
      have hk' : w.heap.size + 2 ≤ k := by simpa using hk
      rw [setRow_other _ _ _ _ (by omega), Below.heap_setCell _ _ _ _ (by simp; omega), Below.heap_setCell _ _ _ _ (by simp; omega)])
  · exact fun a ha => Nat.le_trans (by simp; omega) (HH1.out a ha)
  · exact below_setRow ((HX1.out.setCell (Nat.le_refl _) _).setCell (Nat.le_refl _) _) (by omega) _

set_option maxHeartbeats 3200000 in
set_option maxRecDepth 100000 in
theorem set_3 (s : Sta) (a : Str) (A : Option Addr) (w0 w : World) (hL : IsL w0 A [a]) (hb : Below w0.heap.size w0 w) (hd : (a == dashes) = true) :
    Calls Tryz.prog 20 #[s.val, .slice A 1 1] w (SetOk s [] 0 w) := by
  obtain ⟨b, o, rfl, hlt, _⟩ := hL.head
  have k0 : w.cell? ⟨b, o, none⟩ = some (.string (st a)) := hL.read hb 0 (by simp)
  have hbw : b < w.heap.size := Nat.lt_of_lt_of_le hlt hb.size
  have e1 := st_beq a dashes
  rw [hd] at e1
  have hcl := fun w1 h => clone_c ([] : List Str) (some ⟨b, o, none⟩) 0 0 w w1 (IsL.nil _ _) rfl h (by omega)
  have HC := Lib.hid hcl; clear hcl
  clear hL hb hlt
  generalize hSt : st a = S at *
  clear hSt
  unfold dashes at e1
  obtain ⟨⟨va, vn, vc⟩, ⟨aa, an, ac⟩, ⟨fa, fn, fc⟩, ⟨la, ln, lc⟩, status, out, ind, inat, tok, ton, toat, pipe, ⟨ra, rn, rc⟩, now, calls, over, ask, cn, ⟨ga, gn, gc⟩, ⟨ka, kn, kc⟩, cin⟩ := s
  go_enter Tryz.func20, Tryz.ntmps20
  go_wp2_with (first
    | (go_at_call 46; refine (HC.out _ (((Below.refl w.heap.size w).alloc (Nat.le_refl _) _).alloc (by simp) _)).mono ?_; rintro e w1 ⟨A', c', rfl, hc', hL', hh', hb1⟩; have HS1 : Hid (IsSt w1 w.heap.size ⟨⟨va, vn, vc⟩, ⟨aa, an, ac⟩, ⟨fa, fn, fc⟩, ⟨la, ln, lc⟩, status, out, ind, inat, tok, ton, toat, pipe, ⟨ra, rn, rc⟩, now, calls, over, ask, cn, ⟨ga, gn, gc⟩, ⟨ka, kn, kc⟩, cin⟩) := own_blk hb1 (blk2 w _ _); have HR1 : Hid (IsSt w1 (w.heap.size + 1) zeroS) := own_blk hb1 (blk3 w _ _); have k1 := HS1.out.cells.2.1; have k4 := HS1.out.cells.2.2.2.2.1; have kf1 := HS1.out.f 1; have kf4 := HS1.out.f 4; have HS2 := Lib.hid ((HS1.out.setArgs ⟨A', 0, c'⟩).setStatus 0); have HR2 : Hid (IsSt ((w1.setCell ⟨w.heap.size, 1, none⟩ (.slice A' (0) c')).setCell ⟨w.heap.size, 4, none⟩ (.int .i64 0)) (w.heap.size + 1) zeroS) := (Below.heap_setCell _ _ _ _ (by simp)).trans ((Below.heap_setCell _ _ _ _ (by simp)).trans HR1.out); have HX1 := Lib.hid ((((Below.refl w.heap.size w).alloc (Nat.le_refl _) _).alloc (by simp) _).trans (hb1.mono (by simp; omega))); have HL1 := Lib.hid hL'; have HC1 := Lib.hid hc'; have HH1 := Lib.hid hh'; clear hb1 hL' hc' hh')
    | (refine wpList_load_row rfl 39 _ rfl (w.heap.size) rfl 39 _ (0, 0) _ HS2.out Tryz.underlying39 rfl sta_size ?_)
    | (refine wpList_store_row rfl 39 _ _ rfl (w.heap.size + 1) _ rfl rfl 39 _ HR2.out sta_size rfl (sta_one ⟨⟨va, vn, vc⟩, ⟨A', 0, c'⟩, ⟨fa, fn, fc⟩, ⟨la, ln, lc⟩, 0, out, ind, inat, tok, ton, toat, pipe, ⟨ra, rn, rc⟩, now, calls, over, ask, cn, ⟨ga, gn, gc⟩, ⟨ka, kn, kc⟩, cin⟩) ?_))
  refine bodyPost_ret (v := Sta.val ⟨⟨va, vn, vc⟩, ⟨A', 0, c'⟩, ⟨fa, fn, fc⟩, ⟨la, ln, lc⟩, 0, out, ind, inat, tok, ton, toat, pipe, ⟨ra, rn, rc⟩, now, calls, over, ask, cn, ⟨ga, gn, gc⟩, ⟨ka, kn, kc⟩, cin⟩) (results_cell_row Tryz.results20 _ _ (w.heap.size + 1) 39 _ (0, 0) _ rfl (HR2.out.row (s' := ⟨⟨va, vn, vc⟩, ⟨A', 0, c'⟩, ⟨fa, fn, fc⟩, ⟨la, ln, lc⟩, 0, out, ind, inat, tok, ton, toat, pipe, ⟨ra, rn, rc⟩, now, calls, over, ask, cn, ⟨ga, gn, gc⟩, ⟨ka, kn, kc⟩, cin⟩) _ rfl) Tryz.underlying39 rfl sta_size) rfl ⟨A', c', rfl, HC1.out, ?_, ?_, ?_⟩
  · exact HL1.out.far HH1.out (by simp) (fun k hk => by
      have hk' : w.heap.size + 2 ≤ k := by simpa using hk
      rw [setRow_other _ _ _ _ (by omega), Below.heap_setCell _ _ _ _ (by simp; omega), Below.heap_setCell _ _ _ _ (by simp; omega)])
  · exact fun a ha => Nat.le_trans (by simp; omega) (HH1.out a ha)
  · exact below_setRow ((HX1.out.setCell (Nat.le_refl _) _).setCell (Nat.le_refl _) _) (by omega) _

theorem set_c (s : Sta) (xs : List Str) (A : Option Addr) (n c : Nat) (w0 w : World) (hL : IsL w0 A xs) (hb : Below w0.heap.size w0 w) (hn : xs.length = n) (hc : n ≤ c) (hbig : n ≤ 10000) :
    Calls Tryz.prog 20 #[s.val, .slice A n c] w (SetOk s (setZ xs) (setZ xs).length w) := by
  match xs, hn, hL with
  | [], hn, _ =>
    obtain rfl : n = 0 := by simpa using hn.symm
    exact set_0 s A c w
  | a :: r, hn, hL =>
    obtain ⟨m, rfl⟩ : ∃ m, n = m + 1 := ⟨n - 1, by simp at hn; omega⟩
    have hm : r.length = m := by simpa using hn
    cases hd : a == dashes
    · have hz : setZ (a :: r) = a :: r := by show (if (a == dashes) = true then r else a :: r) = _; rw [hd]; rfl
      rw [hz, show (a :: r).length = m + 1 by simp; omega]
      exact set_1 s a r A m c w0 w hL hb hm hc (by omega) hd
    · have hz : setZ (a :: r) = r := by show (if (a == dashes) = true then r else a :: r) = _; rw [hd]; rfl
      rw [hz, hm]
      by_cases h2 : 2 ≤ c
      · exact set_2 s a r A m c w0 w hL hb hm hc (by omega) h2 hd
      · obtain rfl : c = 1 := by omega
        obtain rfl : m = 0 := by omega
        obtain rfl : r = [] := List.eq_nil_of_length_eq_zero hm
        exact set_3 s a A w0 w hL hb hd

set_option maxHeartbeats 3200000 in
set_option maxRecDepth 100000 in
theorem shift_1 (s : Sta) (X : Option Addr) (cx : Nat) (a : Str) (r : List Str) (A : Option Addr) (m c : Nat) (w0 w : World) (hs : s.args = ⟨A, m + 1, c⟩) (hL : IsL w0 A (a :: r)) (hb : Below w0.heap.size w0 w) (hn : r.length = m) (hc : m + 1 ≤ c) (hbig : m ≤ 10000) (hc2 : 2 ≤ c) :
    Calls Tryz.prog 21 #[s.val, .slice X 0 cx] w (SetOk s r m w) := by
  obtain ⟨b, o, rfl, hlt, _⟩ := hL.head
  have hbw : b < w.heap.size := Nat.lt_of_lt_of_le hlt hb.size
  have n0 : (0 : Int) < (m : Int) + 1 := by omega
  have n1 : ¬ ((m : Int) + 1 < 1) := by omega
  have hcl := fun w1 h => clone_c r (some ⟨b, o + 1, none⟩) m (c - 1) w w1 (hL.keep hb).tail hn h (by omega)
  have HC := Lib.hid hcl; clear hcl
  clear hL hb hlt
  obtain ⟨⟨va, vn, vc⟩, ⟨aa, an, ac⟩, ⟨fa, fn, fc⟩, ⟨la, ln, lc⟩, status, out, ind, inat, tok, ton, toat, pipe, ⟨ra, rn, rc⟩, now, calls, over, ask, cn, ⟨ga, gn, gc⟩, ⟨ka, kn, kc⟩, cin⟩ := s
  simp only at hs
  injection hs with hs1 hs2 hs3
  subst hs1 hs2 hs3
  go_enter Tryz.func21, Tryz.ntmps21
  go_wp2_with (first
    | (go_at_call 46; refine (HC.out _ (((Below.refl w.heap.size w).alloc (Nat.le_refl _) _).alloc (by simp) _)).mono ?_; rintro e w1 ⟨A', c', rfl, hc', hL', hh', hb1⟩; have HS1 : Hid (IsSt w1 w.heap.size ⟨⟨va, vn, vc⟩, ⟨some ⟨b, o, none⟩, m + 1, ac⟩, ⟨fa, fn, fc⟩, ⟨la, ln, lc⟩, status, out, ind, inat, tok, ton, toat, pipe, ⟨ra, rn, rc⟩, now, calls, over, ask, cn, ⟨ga, gn, gc⟩, ⟨ka, kn, kc⟩, cin⟩) := own_blk hb1 (blk2 w _ _); have HR1 : Hid (IsSt w1 (w.heap.size + 1) zeroS) := own_blk hb1 (blk3 w _ _); have k1 := HS1.out.cells.2.1; have k4 := HS1.out.cells.2.2.2.2.1; have kf1 := HS1.out.f 1; have kf4 := HS1.out.f 4; have HS2 := Lib.hid ((HS1.out.setArgs ⟨A', m, c'⟩).setStatus 0); have HR2 : Hid (IsSt ((w1.setCell ⟨w.heap.size, 1, none⟩ (.slice A' (m) c')).setCell ⟨w.heap.size, 4, none⟩ (.int .i64 0)) (w.heap.size + 1) zeroS) := (Below.heap_setCell _ _ _ _ (by simp)).trans ((Below.heap_setCell _ _ _ _ (by simp)).trans HR1.out); have HX1 := Lib.hid ((((Below.refl w.heap.size w).alloc (Nat.le_refl _) _).alloc (by simp) _).trans (hb1.mono (by simp; omega))); have HL1 := Lib.hid hL'; have HC1 := Lib.hid hc'; have HH1 := Lib.hid hh'; clear hb1 hL' hc' hh')
    | (refine wpList_load_row rfl 39 _ rfl (w.heap.size) rfl 39 _ (0, 0) _ HS2.out Tryz.underlying39 rfl sta_size ?_)
    | (refine wpList_store_row rfl 39 _ _ rfl (w.heap.size + 1) _ rfl rfl 39 _ HR2.out sta_size rfl (sta_one ⟨⟨va, vn, vc⟩, ⟨A', m, c'⟩, ⟨fa, fn, fc⟩, ⟨la, ln, lc⟩, 0, out, ind, inat, tok, ton, toat, pipe, ⟨ra, rn, rc⟩, now, calls, over, ask, cn, ⟨ga, gn, gc⟩, ⟨ka, kn, kc⟩, cin⟩) ?_))
  refine bodyPost_ret (v := Sta.val ⟨⟨va, vn, vc⟩, ⟨A', m, c'⟩, ⟨fa, fn, fc⟩, ⟨la, ln, lc⟩, 0, out, ind, inat, tok, ton, toat, pipe, ⟨ra, rn, rc⟩, now, calls, over, ask, cn, ⟨ga, gn, gc⟩, ⟨ka, kn, kc⟩, cin⟩) (results_cell_row Tryz.results21 _ _ (w.heap.size + 1) 39 _ (0, 0) _ rfl (HR2.out.row (s' := ⟨⟨va, vn, vc⟩, ⟨A', m, c'⟩, ⟨fa, fn, fc⟩, ⟨la, ln, lc⟩, 0, out, ind, inat, tok, ton, toat, pipe, ⟨ra, rn, rc⟩, now, calls, over, ask, cn, ⟨ga, gn, gc⟩, ⟨ka, kn, kc⟩, cin⟩) _ rfl) Tryz.underlying39 rfl sta_size) rfl ⟨A', c', rfl, HC1.out, ?_, ?_, ?_⟩
  · exact HL1.out.far HH1.out (by simp) (fun k hk => by
      have hk' : w.heap.size + 2 ≤ k := by simpa using hk
      rw [setRow_other _ _ _ _ (by omega), Below.heap_setCell _ _ _ _ (by simp; omega), Below.heap_setCell _ _ _ _ (by simp; omega)])
  · exact fun a ha => Nat.le_trans (by simp; omega) (HH1.out a ha)
  · exact below_setRow ((HX1.out.setCell (Nat.le_refl _) _).setCell (Nat.le_refl _) _) (by omega) _

set_option maxHeartbeats 3200000 in
set_option maxRecDepth 100000 in
theorem shift_2 (s : Sta) (X : Option Addr) (cx : Nat) (a : Str) (A : Option Addr) (w0 w : World) (hs : s.args = ⟨A, 1, 1⟩) (hL : IsL w0 A [a]) (hb : Below w0.heap.size w0 w) :
    Calls Tryz.prog 21 #[s.val, .slice X 0 cx] w (SetOk s [] 0 w) := by
  obtain ⟨b, o, rfl, hlt, _⟩ := hL.head
  have hbw : b < w.heap.size := Nat.lt_of_lt_of_le hlt hb.size
  have hcl := fun w1 h => clone_c ([] : List Str) (some ⟨b, o, none⟩) 0 0 w w1 (IsL.nil _ _) rfl h (by omega)
  have HC := Lib.hid hcl; clear hcl
  clear hL hb hlt
  obtain ⟨⟨va, vn, vc⟩, ⟨aa, an, ac⟩, ⟨fa, fn, fc⟩, ⟨la, ln, lc⟩, status, out, ind, inat, tok, ton, toat, pipe, ⟨ra, rn, rc⟩, now, calls, over, ask, cn, ⟨ga, gn, gc⟩, ⟨ka, kn, kc⟩, cin⟩ := s
  simp only at hs
  injection hs with hs1 hs2 hs3
  subst hs1 hs2 hs3
  go_enter Tryz.func21, Tryz.ntmps21
  go_wp2_with (first
    | (go_at_call 46; refine (HC.out _ (((Below.refl w.heap.size w).alloc (Nat.le_refl _) _).alloc (by simp) _)).mono ?_; rintro e w1 ⟨A', c', rfl, hc', hL', hh', hb1⟩; have HS1 : Hid (IsSt w1 w.heap.size ⟨⟨va, vn, vc⟩, ⟨some ⟨b, o, none⟩, 1, 1⟩, ⟨fa, fn, fc⟩, ⟨la, ln, lc⟩, status, out, ind, inat, tok, ton, toat, pipe, ⟨ra, rn, rc⟩, now, calls, over, ask, cn, ⟨ga, gn, gc⟩, ⟨ka, kn, kc⟩, cin⟩) := own_blk hb1 (blk2 w _ _); have HR1 : Hid (IsSt w1 (w.heap.size + 1) zeroS) := own_blk hb1 (blk3 w _ _); have k1 := HS1.out.cells.2.1; have k4 := HS1.out.cells.2.2.2.2.1; have kf1 := HS1.out.f 1; have kf4 := HS1.out.f 4; have HS2 := Lib.hid ((HS1.out.setArgs ⟨A', 0, c'⟩).setStatus 0); have HR2 : Hid (IsSt ((w1.setCell ⟨w.heap.size, 1, none⟩ (.slice A' (0) c')).setCell ⟨w.heap.size, 4, none⟩ (.int .i64 0)) (w.heap.size + 1) zeroS) := (Below.heap_setCell _ _ _ _ (by simp)).trans ((Below.heap_setCell _ _ _ _ (by simp)).trans HR1.out); have HX1 := Lib.hid ((((Below.refl w.heap.size w).alloc (Nat.le_refl _) _).alloc (by simp) _).trans (hb1.mono (by simp; omega))); have HL1 := Lib.hid hL'; have HC1 := Lib.hid hc'; have HH1 := Lib.hid hh'; clear hb1 hL' hc' hh')
    | (refine wpList_load_row rfl 39 _ rfl (w.heap.size) rfl 39 _ (0, 0) _ HS2.out Tryz.underlying39 rfl sta_size ?_)
    | (refine wpList_store_row rfl 39 _ _ rfl (w.heap.size + 1) _ rfl rfl 39 _ HR2.out sta_size rfl (sta_one ⟨⟨va, vn, vc⟩, ⟨A', 0, c'⟩, ⟨fa, fn, fc⟩, ⟨la, ln, lc⟩, 0, out, ind, inat, tok, ton, toat, pipe, ⟨ra, rn, rc⟩, now, calls, over, ask, cn, ⟨ga, gn, gc⟩, ⟨ka, kn, kc⟩, cin⟩) ?_))
  refine bodyPost_ret (v := Sta.val ⟨⟨va, vn, vc⟩, ⟨A', 0, c'⟩, ⟨fa, fn, fc⟩, ⟨la, ln, lc⟩, 0, out, ind, inat, tok, ton, toat, pipe, ⟨ra, rn, rc⟩, now, calls, over, ask, cn, ⟨ga, gn, gc⟩, ⟨ka, kn, kc⟩, cin⟩) (results_cell_row Tryz.results21 _ _ (w.heap.size + 1) 39 _ (0, 0) _ rfl (HR2.out.row (s' := ⟨⟨va, vn, vc⟩, ⟨A', 0, c'⟩, ⟨fa, fn, fc⟩, ⟨la, ln, lc⟩, 0, out, ind, inat, tok, ton, toat, pipe, ⟨ra, rn, rc⟩, now, calls, over, ask, cn, ⟨ga, gn, gc⟩, ⟨ka, kn, kc⟩, cin⟩) _ rfl) Tryz.underlying39 rfl sta_size) rfl ⟨A', c', rfl, HC1.out, ?_, ?_, ?_⟩
  · exact HL1.out.far HH1.out (by simp) (fun k hk => by
      have hk' : w.heap.size + 2 ≤ k := by simpa using hk
      rw [setRow_other _ _ _ _ (by omega), Below.heap_setCell _ _ _ _ (by simp; omega), Below.heap_setCell _ _ _ _ (by simp; omega)])
  · exact fun a ha => Nat.le_trans (by simp; omega) (HH1.out a ha)
  · exact below_setRow ((HX1.out.setCell (Nat.le_refl _) _).setCell (Nat.le_refl _) _) (by omega) _

set_option maxHeartbeats 3200000 in
set_option maxRecDepth 100000 in
theorem shift_0 (s : Sta) (X : Option Addr) (cx : Nat) (A : Option Addr) (c : Nat) (w : World) (hs : s.args = ⟨A, 0, c⟩) :
    Calls Tryz.prog 21 #[s.val, .slice X 0 cx] w fun e w' => e = .returned (Sta.val { s with status := 1 }) ∧ Below w.heap.size w w' := by
  obtain ⟨⟨va, vn, vc⟩, ⟨aa, an, ac⟩, ⟨fa, fn, fc⟩, ⟨la, ln, lc⟩, status, out, ind, inat, tok, ton, toat, pipe, ⟨ra, rn, rc⟩, now, calls, over, ask, cn, ⟨ga, gn, gc⟩, ⟨ka, kn, kc⟩, cin⟩ := s
  simp only at hs
  injection hs with hs1 hs2 hs3
  subst hs1 hs2 hs3
  go_enter Tryz.func21, Tryz.ntmps21
  go_wp2_with (first
    | (refine wpList_load_row rfl 39 _ rfl (w.heap.size) rfl 39 _ (0, 0) _ (blk2 w _ _) Tryz.underlying39 rfl sta_size ?_)
    | (refine wpList_store_row rfl 39 _ _ rfl (w.heap.size + 1) _ rfl rfl 39 _ (blk3 w _ _) sta_size rfl (sta_one ⟨⟨va, vn, vc⟩, ⟨aa, 0, ac⟩, ⟨fa, fn, fc⟩, ⟨la, ln, lc⟩, 1, out, ind, inat, tok, ton, toat, pipe, ⟨ra, rn, rc⟩, now, calls, over, ask, cn, ⟨ga, gn, gc⟩, ⟨ka, kn, kc⟩, cin⟩) ?_))
  refine bodyPost_ret (v := Sta.val ⟨⟨va, vn, vc⟩, ⟨aa, 0, ac⟩, ⟨fa, fn, fc⟩, ⟨la, ln, lc⟩, 1, out, ind, inat, tok, ton, toat, pipe, ⟨ra, rn, rc⟩, now, calls, over, ask, cn, ⟨ga, gn, gc⟩, ⟨ka, kn, kc⟩, cin⟩) (results_cell_row Tryz.results21 _ _ (w.heap.size + 1) 39 _ (0, 0) _ rfl (IsSt.row (s := zeroS) (s' := ⟨⟨va, vn, vc⟩, ⟨aa, 0, ac⟩, ⟨fa, fn, fc⟩, ⟨la, ln, lc⟩, 1, out, ind, inat, tok, ton, toat, pipe, ⟨ra, rn, rc⟩, now, calls, over, ask, cn, ⟨ga, gn, gc⟩, ⟨ka, kn, kc⟩, cin⟩) (blk3 w _ _) _ rfl) Tryz.underlying39 rfl sta_size) rfl ⟨rfl, ?_⟩
  exact below_setRow (((Below.refl w.heap.size w).alloc (Nat.le_refl _) _).alloc (by simp) _) (by omega) _
end Go.Proofs.YtcpafdcghlpabaaGreatDoor.Bu
