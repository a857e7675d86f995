/-
The walks of split.Lines, of port.left and of port.Line.
-/
import Derived.Test.YtcpafdcghlpabaaGreatDoorBu15
import Derived.BigRegion
import Derived.Lib.IndexLaws
set_option linter.unusedVariables false
set_option linter.unusedSimpArgs false
namespace Go.Proofs.YtcpafdcghlpabaaGreatDoor.Bu
open Go.RowKit Go.Shelf Go.Proofs.YtcpafdcghlpabaaGreatDoor.Ar

/-- A text up to its first line feed, and what is behind it. -/
def lineZ (s : Str) : Str := s.takeWhile (fun c => c != 10)
def restZ (s : Str) : Str := (s.dropWhile (fun c => c != 10)).drop 1

theorem line_len (s : Str) (h : (10 : UInt8) ∈ s) : (lineZ s).length < s.length ∧ s[(lineZ s).length]? = some 10 ∧ (∀ k, k < (lineZ s).length → s[k]? ≠ some 10) ∧ s.take (lineZ s).length = lineZ s ∧ s.drop ((lineZ s).length + 1) = restZ s := by
  induction s with
  | nil => cases h
  | cons c r ih =>
    by_cases hc : c = 10
    · subst hc
      simp [lineZ, restZ]
    · have hr : (10 : UInt8) ∈ r := by simpa [Ne.symm hc] using h
      obtain ⟨h1, h2, h3, h4, h5⟩ := ih hr
      have e : lineZ (c :: r) = c :: lineZ r := by simp [lineZ, hc]
      have e2 : restZ (c :: r) = restZ r := by simp [restZ, hc]
      rw [e, e2]
      refine ⟨by simp; exact h1, by simpa using h2, ?_, by simpa using h4, by simpa using h5⟩
      intro k hk
      cases k with
      | zero => simpa using hc
      | succ k => simpa using h3 k (by simpa using hk)
theorem idx_line (s : Str) (h : (10 : UInt8) ∈ s) : Lib.indexByte s 10 = ((lineZ s).length : Int) := by
  obtain ⟨_, h2, h3, _⟩ := line_len s h
  have hg := Lib.indexByte_ge s 10
  rcases Int.lt_or_le (Lib.indexByte s 10) 0 with h0 | h0
  · have : Lib.indexByte s 10 = -1 := by omega
    exact absurd h2 (Lib.indexByte_none this _)
  · obtain ⟨o, ho⟩ : ∃ o : Nat, Lib.indexByte s 10 = o := ⟨(Lib.indexByte s 10).toNat, by omega⟩
    obtain ⟨a, b⟩ := Lib.indexByte_some ho
    rw [ho]
    rcases Nat.lt_trichotomy o (lineZ s).length with h | h | h
    · exact absurd a (h3 o h)
    · rw [h]
    · exact absurd h2 (b _ h)
theorem idx_none (s : Str) (h : (10 : UInt8) ∉ s) : Lib.indexByte s 10 = -1 := by
  have hg := Lib.indexByte_ge s 10
  rcases Int.lt_or_le (Lib.indexByte s 10) 0 with h0 | h0
  · omega
  · obtain ⟨o, ho⟩ : ∃ o : Nat, Lib.indexByte s 10 = o := ⟨(Lib.indexByte s 10).toNat, by omega⟩
    obtain ⟨a, _⟩ := Lib.indexByte_some ho
    exact absurd (List.mem_of_getElem? a) h
theorem line_no (s : Str) (h : (10 : UInt8) ∉ s) : lineZ s = s ∧ restZ s = [] := by
  induction s with
  | nil => exact ⟨rfl, rfl⟩
  | cons c r ih =>
    have hc : c ≠ 10 := fun e => h (by simp [e])
    have hr : (10 : UInt8) ∉ r := fun e => h (by simp [e])
    obtain ⟨h1, h2⟩ := ih hr
    refine ⟨by simp [lineZ, hc]; exact h1, by simp [restZ, hc]; simpa [restZ] using h2⟩
theorem line_of (l r : Str) (h : (10 : UInt8) ∉ l) : lineZ (l ++ 10 :: r) = l ∧ restZ (l ++ 10 :: r) = r := by
  induction l with
  | nil => simp [lineZ, restZ]
  | cons c l ih =>
    have hc : c ≠ 10 := fun e => h (by simp [e])
    have hr : (10 : UInt8) ∉ l := fun e => h (by simp [e])
    obtain ⟨h1, h2⟩ := ih hr
    exact ⟨by simpa [lineZ, hc] using h1, by simpa [restZ, hc] using h2⟩

set_option maxHeartbeats 1600000 in
set_option maxRecDepth 100000 in
theorem cut_c (s : Str) (w : World) (hl : s.length ≤ 140737488351232) :
    Calls Tryz.prog 136 #[.string (st s), .string ⟨#[10]⟩] w fun e w' => (∃ b, e = .returned (.tuple #[.string (st (lineZ s)), .string (st (restZ s)), .bool b])) ∧ ∃ k, w' = w.drewN k := by
  have hx := Tryz.stringslite_Index_one (st s) 10 w
  have hsz : (st s).size = s.length := st_size s
  by_cases hm : (10 : UInt8) ∈ s
  · rw [show (st s).data.toList = s from rfl, idx_line s hm] at hx
    obtain ⟨hlt, _, _, ht, hd⟩ := line_len s hm
    have e1 : (st s).extract 0 (lineZ s).length = st (lineZ s) := by rw [st_take, ht]
    have e2 : (st s).extract ((lineZ s).length + 1) s.length = st (restZ s) := by rw [st_drop, hd]
    clear ht hd
    generalize (lineZ s).length = k at *
    have HX := Lib.hid hx; have E1 := Lib.hid e1; have E2 := Lib.hid e2
    clear hx e1 e2 hm
    generalize hS : st s = S at *
    clear hS
    have b1 : (k : Int) ≤ (S.size : Int) := by omega
    have b2 : (k : Int) + 1 ≤ (S.size : Int) := by omega
    go_enter Tryz.func136, Tryz.ntmps136
    go_wp2_with (go_at_call 125; refine HX.out.mono ?_; rintro e w5 ⟨rfl, rfl⟩)
    go_quiet (fail)
    go_wp2
    go_ret3
    exact ⟨⟨true, by rw [← E1.out, ← E2.out]; rfl⟩, _, rfl⟩
  · rw [show (st s).data.toList = s from rfl, idx_none s hm] at hx
    obtain ⟨e1, e2⟩ := line_no s hm
    rw [e1, e2]
    have HX := Lib.hid hx
    clear hx e1 e2 hm
    generalize hS : st s = S at *
    clear hS
    go_enter Tryz.func136, Tryz.ntmps136
    go_wp2_with (go_at_call 125; refine HX.out.mono ?_; rintro e w5 ⟨rfl, rfl⟩)
    go_ret3
    exact ⟨⟨_, rfl⟩, 0, rfl⟩

set_option maxHeartbeats 800000 in
theorem cutS_c (s : Str) (w : World) (hl : s.length ≤ 140737488351232) :
    Calls Tryz.prog 119 #[.string (st s), .string ⟨#[10]⟩] w fun e w' => (∃ b, e = .returned (.tuple #[.string (st (lineZ s)), .string (st (restZ s)), .bool b])) ∧ ∃ k, w' = w.drewN k := by
  have hc := cut_c s w hl
  generalize lineZ s = l at *
  generalize restZ s = r at *
  have HC := Lib.hid hc
  clear hc
  generalize st s = S at *
  generalize st l = L at *
  generalize st r = R at *
  go_enter Tryz.func119, Tryz.ntmps119
  go_wp2_with (go_at_call 136; refine HC.out.mono ?_; rintro e w5 ⟨⟨b, rfl⟩, k, rfl⟩)
  go_ret3
  exact ⟨⟨b, rfl⟩, _, rfl⟩

set_option maxHeartbeats 800000 in
theorem lines_c (s : Str) (w : World) (hl : s.length ≤ 140737488351232) :
    Calls Tryz.prog 84 #[.string (st s)] w fun e w' => e = .returned (.tuple #[.string (st (lineZ s)), .string (st (restZ s)), .bool (!s.isEmpty)]) ∧ ∃ k, w' = w.drewN k := by
  have hc := cutS_c s w hl
  have he : (st s).toList = s := toList_B (st s)
  have hem : (st s).toList.isEmpty = s.isEmpty := by rw [he]
  generalize lineZ s = l at *
  generalize restZ s = r at *
  generalize s.isEmpty = q at *
  have HC := Lib.hid hc
  clear hc he
  generalize st s = S at *
  cases q <;>
  (go_enter Tryz.func84, Tryz.ntmps84
   go_wp2_with (go_at_call 119; refine HC.out.mono ?_; rintro e w5 ⟨⟨b, rfl⟩, k, rfl⟩)
   go_ret3
   exact ⟨rfl, _, rfl⟩)

/-- What is left of an input. -/
def leftZ (D : Str) (a : Nat) : Str := D.drop a

set_option maxHeartbeats 1600000 in
set_option maxRecDepth 100000 in
theorem left_c (s : Sta) (D : Str) (a : Nat) (w : World) (hD : s.ind = st D) (ha : s.inat = a) (hle : a ≤ D.length) (hl : D.length ≤ 140737488351232) :
    Calls Tryz.prog 85 #[s.val] w fun e w' => e = .returned (.string (st (D.drop a))) ∧ Below w.heap.size w w' := by
  obtain ⟨⟨va, vn, vc⟩, ⟨aa, an, ac⟩, ⟨fa, fn, fc⟩, ⟨la, ln, lc⟩, status, out, ind, inat, tok, ton, toat, pipe, ⟨ra, rn, rc⟩, now, calls, over, ask, cn, ⟨ga, gn, gc⟩, ⟨ka, kn, kc⟩, cin⟩ := s
  simp only at hD ha
  subst hD ha
  have hsz : ((st D).size : Int) = D.length := by rw [st_size]
  have e1 : (st D).extract a (st D).size = st (D.drop a) := by rw [st_size, st_drop]
  have b1 : (a : Int) ≤ ((st D).size : Int) := by rw [hsz]; omega
  rw [← e1]
  clear e1 hsz
  generalize st D = S at *
  have m1 : max (a : Int) 0 = a := by omega
  have m2 : min (a : Int) (S.size : Int) = a := by omega
  go_enter Tryz.func85, Tryz.ntmps85
  go_wp2
  go_ret
  exact ⟨rfl, (Below.refl _ _).alloc (Nat.le_refl _) _⟩

theorem IsSt.setAt {w : World} {g : Nat} {s : Sta} (h : IsSt w g s) (x : Int) : IsSt (w.setCell ⟨g, 7, none⟩ (.int .i64 x)) g { s with inat := x } := (blk_set h 7 _).trans rfl
theorem IsSt.drewN {w : World} {g : Nat} {s : Sta} (h : IsSt w g s) (k : Nat) : IsSt (w.drewN k) g s := h
theorem bel_drewN {B : Nat} {a w : World} (h : Below B a w) (n : Nat) : Below B a (w.drewN n) := h.trans ⟨rfl, rfl, rfl, Nat.le_refl _, fun _ _ => rfl⟩
theorem results_tct {P : Program} {fn : Func} {p u v : Tmp} {ty : TypeId} (h : fn.results = #[.tmp u, .cell p ty, .tmp v]) (tmps : Array Value) (w : World) (g : Nat) (t : TypeId) (cs : Array Value) (fr : Nat × Nat) (d : TypeDesc)
    (hp : tmps.getD p undef = .pointer (some ⟨g, 0, none⟩)) (hg : w.heap[g]? = some (.cells cs t fr))
    (hu : P.underlying ty = some d) (hd : (match d with | .struct _ | .array _ _ => true | _ => false) = true) (hi : (P.info? ty).map (·.size) = some cs.size) :
    (results fn tmps).run P w = .ok (.tuple #[tmps.getD u undef, .agg cs, tmps.getD v undef]) w := by
  have hp' : tmps[p]?.getD undef = .pointer (some ⟨g, 0, none⟩) := by simpa using hp
  simp [results, h, hp', asAddr, run_loadVar_row w g t ty cs fr d hg hu hd hi]
/-- A machine that has read a line. -/
def lineS (s : Sta) (D : Str) (a : Nat) : Sta := if D.drop a = [] then s else { s with inat := ((D.length - (restZ (D.drop a)).length : Nat) : Int) }

set_option maxHeartbeats 3200000 in
set_option maxRecDepth 100000 in
theorem line_c1 (s : Sta) (D : Str) (a : Nat) (w : World) (hD : s.ind = st D) (ha : s.inat = a) (hle : a ≤ D.length) (hl : D.length ≤ 140737488351232) (hne : D.drop a ≠ []) :
    Calls Tryz.prog 48 #[s.val] w fun e w' => e = .returned (.tuple #[.string (st (lineZ (D.drop a))), (lineS s D a).val, .bool true]) ∧ Below w.heap.size w w' := by
  have hlf := fun w1 => left_c s D a w1 hD ha hle hl
  have hll : (D.drop a).length ≤ 140737488351232 := by simp; omega
  have hln := fun w1 => lines_c (D.drop a) w1 hll
  have hq : (D.drop a).isEmpty = false := by simpa using hne
  rw [hq] at hln
  have hrl : (restZ (D.drop a)).length ≤ D.length := by
    have : (restZ (D.drop a)).length ≤ (D.drop a).length := by unfold restZ; simp; have := (List.dropWhile_sublist (l := D.drop a) (p := fun c => c != 10)).length_le; simp at this; omega
    simp at this; omega
  have hz : lineS s D a = { s with inat := ((D.length - (restZ (D.drop a)).length : Nat) : Int) } := by unfold lineS; rw [if_neg hne]
  rw [hz]
  have hr2 : ((st (restZ (D.drop a))).size : Int) = (restZ (D.drop a)).length := by rw [st_size]
  have hD2 : ((st D).size : Int) = D.length := by rw [st_size]
  obtain ⟨na, hna⟩ : ∃ na : Nat, na = D.length - (restZ (D.drop a)).length := ⟨_, rfl⟩
  rw [← hna]
  have hsub : ((st D).size : Int) - ((st (restZ (D.drop a))).size : Int) = na := by rw [hr2, hD2, hna]; omega
  generalize lineZ (D.drop a) = l at *
  generalize restZ (D.drop a) = r at *
  generalize D.drop a = R at *
  have HLF := Lib.hid hlf; have HLN := Lib.hid hln; have HSB := Lib.hid hsub
  have hb0 : (D.length : Int) ≤ 140737488351232 := by omega
  clear hlf hln hz hq hne hr2 hsub hll hna
  obtain ⟨⟨va, vn, vc⟩, ⟨aa, an, ac⟩, ⟨fa, fn, fc⟩, ⟨la, ln, lc⟩, status, out, ind, inat, tok, ton, toat, pipe, ⟨ra, rn, rc⟩, now, calls, over, ask, cn, ⟨ga, gn, gc⟩, ⟨ka, kn, kc⟩, cin⟩ := s
  simp only at hD ha
  subst hD ha
  have hDs : ((st D).size : Int) ≤ 140737488351232 := by rw [hD2]; omega
  have hrs : (0 : Int) ≤ ((st r).size : Int) := by omega
  have hru : ((st r).size : Int) ≤ 140737488351232 := by rw [st_size]; omega
  clear hD2
  generalize st R = SR at *
  generalize st r = Sr at *
  generalize st l = Sl at *
  generalize st D = SD at *
  go_enter Tryz.func48, Tryz.ntmps48
  go_wp2_with (first
    | (refine wpList_load_row rfl 39 _ rfl w.heap.size rfl 39 _ (0, 0) _ (blk2 w _ _) Tryz.underlying39 rfl sta_size ?_)
    | (go_at_call 85; refine (HLF.out _).mono ?_; rintro e w1 ⟨rfl, hb1⟩; have HS1 : Hid (IsSt w1 w.heap.size ⟨⟨va, vn, vc⟩, ⟨aa, an, ac⟩, ⟨fa, fn, fc⟩, ⟨la, ln, lc⟩, status, out, SD, (a : Int), tok, ton, toat, pipe, ⟨ra, rn, rc⟩, now, calls, over, ask, cn, ⟨ga, gn, gc⟩, ⟨ka, kn, kc⟩, cin⟩) := own_blk hb1 (blk2 w _ _); have HR1 : Hid (IsSt w1 (w.heap.size + 1) zeroS) := own_blk hb1 (blk3 w _ _); have k6 := HS1.out.cells.2.2.2.2.2.2.1; have k7 := HS1.out.cells.2.2.2.2.2.2.2.1; have kf := HS1.out.f 7; have HX1 := Lib.hid ((below_alloc2 w _ _).trans (hb1.mono (size2_le w _ _))); clear hb1)
    | (go_at_call 84; refine (HLN.out _).mono ?_; rintro e w2 ⟨rfl, kk, rfl⟩))
  have HS2 := Lib.hid ((HS1.out.drewN kk).setAt ((SD.size : Int) - (Sr.size : Int)))
  have HR2 : Hid (IsSt ((w1.drewN kk).setCell ⟨w.heap.size, 7, none⟩ (.int .i64 ((SD.size : Int) - (Sr.size : Int)))) (w.heap.size + 1) zeroS) := (Below.heap_setCell _ _ _ _ (by simp)).trans HR1.out
  have HX2 := Lib.hid ((bel_drewN HX1.out kk).setCell (p := ⟨w.heap.size, 7, none⟩) (Nat.le_refl _) (.int .i64 ((SD.size : Int) - (Sr.size : Int))))
  clear k6 k7 kf
  generalize hW : (w1.drewN kk).setCell ⟨w.heap.size, 7, none⟩ (.int .i64 ((SD.size : Int) - (Sr.size : Int))) = W at *
  clear hW
  have HS3 : Hid (IsSt W.drew w.heap.size ⟨⟨va, vn, vc⟩, ⟨aa, an, ac⟩, ⟨fa, fn, fc⟩, ⟨la, ln, lc⟩, status, out, SD, ((SD.size : Int) - (Sr.size : Int)), tok, ton, toat, pipe, ⟨ra, rn, rc⟩, now, calls, over, ask, cn, ⟨ga, gn, gc⟩, ⟨ka, kn, kc⟩, cin⟩) := HS2.out
  have HR3 : Hid (IsSt W.drew (w.heap.size + 1) zeroS) := HR2.out
  refine wp_region_any (by kernel_rfl) ?_
  change wpAny _ _ _ _ _ _ _ (World.drew _)
  refine wpAny_take (i := 0) (v := ?_) rfl (by kernel_rfl) (by kernel_rfl) (by kernel_rfl) (fun _ _ _ h => h) (Or.inl ⟨by rfl, ?_⟩) ?_
  rotate_left
  · intro w; refine Go.BigFrame.run_move (.tmp 2) ?_ w; rfl
  refine wpAny_take (i := 2) (v := ?_) rfl (by kernel_rfl) (by kernel_rfl) (by kernel_rfl) (fun _ _ _ h => h) (Or.inl ⟨by rfl, ?_⟩) ?_
  rotate_left
  · intro w; refine Go.BigFrame.run_move (.tmp 4) ?_ w; rfl
  refine wpAny_take (i := 3) (v := ?_) rfl (by kernel_rfl) (by kernel_rfl) (by kernel_rfl) (fun _ _ _ h => h) (Or.inl ⟨by rfl, ?_⟩) ?_
  rotate_left
  · intro w; refine Go.BigFrame.run_assign (.tmp 23) ?_ w; rfl
  refine wpAny_ready (rs := [1]) (by kernel_rfl) (by simp) ?_
  refine AllReady.cons rfl (fun K hK => ?_) AllReady.nil
  rw [if_pos (by rfl)]
  refine wp_load_row 39 (.tmp 1) rfl w.heap.size rfl 39 _ (0, 0) _ HS3.out Tryz.underlying39 rfl sta_size ?_
  refine hK _ _ ?_
  clear hK K
  refine wpAny_ready (rs := [4]) (by kernel_rfl) (by simp) ?_
  refine AllReady.cons rfl (fun K hK => ?_) AllReady.nil
  rw [if_pos (by rfl)]
  refine wp_store_row 39 (.tmp 3) (.tmp 24) rfl (w.heap.size + 1) _ rfl rfl 39 _ HR3.out sta_size rfl (sta_one ⟨⟨va, vn, vc⟩, ⟨aa, an, ac⟩, ⟨fa, fn, fc⟩, ⟨la, ln, lc⟩, status, out, SD, ((SD.size : Int) - (Sr.size : Int)), tok, ton, toat, pipe, ⟨ra, rn, rc⟩, now, calls, over, ask, cn, ⟨ga, gn, gc⟩, ⟨ka, kn, kc⟩, cin⟩) ?_
  refine hK _ _ ?_
  clear hK K
  refine wpAny_take (i := 5) (v := ?_) rfl (by kernel_rfl) (by kernel_rfl) (by kernel_rfl) (fun _ _ _ h => h) (Or.inl ⟨by rfl, ?_⟩) ?_
  rotate_left
  · intro w; refine Go.BigFrame.run_assign (.tmp 25) ?_ w; rfl
  refine wpAny_done (by kernel_rfl) ?_ _
  go_wp2
  refine bodyPost_ret (v := .tuple #[.string Sl, Sta.val ⟨⟨va, vn, vc⟩, ⟨aa, an, ac⟩, ⟨fa, fn, fc⟩, ⟨la, ln, lc⟩, status, out, SD, ((SD.size : Int) - (Sr.size : Int)), tok, ton, toat, pipe, ⟨ra, rn, rc⟩, now, calls, over, ask, cn, ⟨ga, gn, gc⟩, ⟨ka, kn, kc⟩, cin⟩, .bool true]) (results_tct Tryz.results48 _ _ (w.heap.size + 1) 39 _ (0, 0) _ rfl (HR3.out.row (s' := ⟨⟨va, vn, vc⟩, ⟨aa, an, ac⟩, ⟨fa, fn, fc⟩, ⟨la, ln, lc⟩, status, out, SD, ((SD.size : Int) - (Sr.size : Int)), tok, ton, toat, pipe, ⟨ra, rn, rc⟩, now, calls, over, ask, cn, ⟨ga, gn, gc⟩, ⟨ka, kn, kc⟩, cin⟩) _ rfl) Tryz.underlying39 rfl sta_size) rfl ⟨by rw [HSB.out], ?_⟩
  exact below_setRow HX2.out.drew (by omega) _
set_option maxHeartbeats 3200000 in
set_option maxRecDepth 100000 in
theorem line_c0 (s : Sta) (D : Str) (a : Nat) (w : World) (hD : s.ind = st D) (ha : s.inat = a) (hle : a ≤ D.length) (hl : D.length ≤ 140737488351232) (hne : D.drop a = []) :
    Calls Tryz.prog 48 #[s.val] w fun e w' => e = .returned (.tuple #[.string (st (lineZ (D.drop a))), (lineS s D a).val, .bool false]) ∧ Below w.heap.size w w' := by
  have hlf := fun w1 => left_c s D a w1 hD ha hle hl
  have hll : (D.drop a).length ≤ 140737488351232 := by simp; omega
  have hln := fun w1 => lines_c (D.drop a) w1 hll
  have hq : (D.drop a).isEmpty = true := by rw [hne]; rfl
  rw [hq] at hln
  have hz : lineS s D a = s := by unfold lineS; rw [if_pos hne]
  rw [hz]
  generalize lineZ (D.drop a) = l at *
  generalize restZ (D.drop a) = r at *
  generalize D.drop a = R at *
  have HLF := Lib.hid hlf; have HLN := Lib.hid hln
  clear hlf hln hz hq hne hll
  obtain ⟨⟨va, vn, vc⟩, ⟨aa, an, ac⟩, ⟨fa, fn, fc⟩, ⟨la, ln, lc⟩, status, out, ind, inat, tok, ton, toat, pipe, ⟨ra, rn, rc⟩, now, calls, over, ask, cn, ⟨ga, gn, gc⟩, ⟨ka, kn, kc⟩, cin⟩ := s
  simp only at hD ha
  subst hD ha
  generalize st R = SR at *
  generalize st r = Sr at *
  generalize st l = Sl at *
  generalize st D = SD at *
  go_enter Tryz.func48, Tryz.ntmps48
  go_wp2_with (first
    | (refine wpList_load_row rfl 39 _ rfl w.heap.size rfl 39 _ (0, 0) _ (blk2 w _ _) Tryz.underlying39 rfl sta_size ?_)
    | (go_at_call 85; refine (HLF.out _).mono ?_; rintro e w1 ⟨rfl, hb1⟩; have HS1 : Hid (IsSt w1 w.heap.size ⟨⟨va, vn, vc⟩, ⟨aa, an, ac⟩, ⟨fa, fn, fc⟩, ⟨la, ln, lc⟩, status, out, SD, (a : Int), tok, ton, toat, pipe, ⟨ra, rn, rc⟩, now, calls, over, ask, cn, ⟨ga, gn, gc⟩, ⟨ka, kn, kc⟩, cin⟩) := own_blk hb1 (blk2 w _ _); have HR1 : Hid (IsSt w1 (w.heap.size + 1) zeroS) := own_blk hb1 (blk3 w _ _); have k6 := HS1.out.cells.2.2.2.2.2.2.1; have k7 := HS1.out.cells.2.2.2.2.2.2.2.1; have kf := HS1.out.f 7; have HX1 := Lib.hid ((below_alloc2 w _ _).trans (hb1.mono (size2_le w _ _))); clear hb1)
    | (go_at_call 84; refine (HLN.out _).mono ?_; rintro e w2 ⟨rfl, kk, rfl⟩))
  have HS2 := Lib.hid (HS1.out.drewN kk)
  have HR2 : Hid (IsSt (w1.drewN kk) (w.heap.size + 1) zeroS) := HR1.out
  have HX2 := Lib.hid (bel_drewN HX1.out kk)
  clear k6 k7 kf
  generalize hW : w1.drewN kk = W at *
  clear hW
  have HS3 : Hid (IsSt W.drew w.heap.size ⟨⟨va, vn, vc⟩, ⟨aa, an, ac⟩, ⟨fa, fn, fc⟩, ⟨la, ln, lc⟩, status, out, SD, (a : Int), tok, ton, toat, pipe, ⟨ra, rn, rc⟩, now, calls, over, ask, cn, ⟨ga, gn, gc⟩, ⟨ka, kn, kc⟩, cin⟩) := HS2.out
  have HR3 : Hid (IsSt W.drew (w.heap.size + 1) zeroS) := HR2.out
  refine wp_region_any (by kernel_rfl) ?_
  change wpAny _ _ _ _ _ _ _ (World.drew _)
  refine wpAny_take (i := 0) (v := ?_) rfl (by kernel_rfl) (by kernel_rfl) (by kernel_rfl) (fun _ _ _ h => h) (Or.inl ⟨by rfl, ?_⟩) ?_
  rotate_left
  · intro w; refine Go.BigFrame.run_move (.tmp 2) ?_ w; rfl
  refine wpAny_take (i := 2) (v := ?_) rfl (by kernel_rfl) (by kernel_rfl) (by kernel_rfl) (fun _ _ _ h => h) (Or.inl ⟨by rfl, ?_⟩) ?_
  rotate_left
  · intro w; refine Go.BigFrame.run_move (.tmp 4) ?_ w; rfl
  refine wpAny_take (i := 3) (v := ?_) rfl (by kernel_rfl) (by kernel_rfl) (by kernel_rfl) (fun _ _ _ h => h) (Or.inl ⟨by rfl, ?_⟩) ?_
  rotate_left
  · intro w; refine Go.BigFrame.run_assign (.tmp 23) ?_ w; rfl
  refine wpAny_ready (rs := [1]) (by kernel_rfl) (by simp) ?_
  refine AllReady.cons rfl (fun K hK => ?_) AllReady.nil
  rw [if_pos (by rfl)]
  refine wp_load_row 39 (.tmp 1) rfl w.heap.size rfl 39 _ (0, 0) _ HS3.out Tryz.underlying39 rfl sta_size ?_
  refine hK _ _ ?_
  clear hK K
  refine wpAny_ready (rs := [4]) (by kernel_rfl) (by simp) ?_
  refine AllReady.cons rfl (fun K hK => ?_) AllReady.nil
  rw [if_pos (by rfl)]
  refine wp_store_row 39 (.tmp 3) (.tmp 24) rfl (w.heap.size + 1) _ rfl rfl 39 _ HR3.out sta_size rfl (sta_one ⟨⟨va, vn, vc⟩, ⟨aa, an, ac⟩, ⟨fa, fn, fc⟩, ⟨la, ln, lc⟩, status, out, SD, (a : Int), tok, ton, toat, pipe, ⟨ra, rn, rc⟩, now, calls, over, ask, cn, ⟨ga, gn, gc⟩, ⟨ka, kn, kc⟩, cin⟩) ?_
  refine hK _ _ ?_
  clear hK K
  refine wpAny_take (i := 5) (v := ?_) rfl (by kernel_rfl) (by kernel_rfl) (by kernel_rfl) (fun _ _ _ h => h) (Or.inl ⟨by rfl, ?_⟩) ?_
  rotate_left
  · intro w; refine Go.BigFrame.run_assign (.tmp 25) ?_ w; rfl
  refine wpAny_done (by kernel_rfl) ?_ _
  go_wp2
  refine bodyPost_ret (v := .tuple #[.string Sl, Sta.val ⟨⟨va, vn, vc⟩, ⟨aa, an, ac⟩, ⟨fa, fn, fc⟩, ⟨la, ln, lc⟩, status, out, SD, (a : Int), tok, ton, toat, pipe, ⟨ra, rn, rc⟩, now, calls, over, ask, cn, ⟨ga, gn, gc⟩, ⟨ka, kn, kc⟩, cin⟩, .bool false]) (results_tct Tryz.results48 _ _ (w.heap.size + 1) 39 _ (0, 0) _ rfl (HR3.out.row (s' := ⟨⟨va, vn, vc⟩, ⟨aa, an, ac⟩, ⟨fa, fn, fc⟩, ⟨la, ln, lc⟩, status, out, SD, (a : Int), tok, ton, toat, pipe, ⟨ra, rn, rc⟩, now, calls, over, ask, cn, ⟨ga, gn, gc⟩, ⟨ka, kn, kc⟩, cin⟩) _ rfl) Tryz.underlying39 rfl sta_size) rfl ⟨rfl, ?_⟩
  exact below_setRow HX2.out.drew (by omega) _
end Go.Proofs.YtcpafdcghlpabaaGreatDoor.Bu
