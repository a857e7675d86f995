/-
The walk of the law of reading. (Written by gen_bu21.py.)
-/
import Derived.Test.YtcpafdcghlpabaaGreatDoorBu20
import Derived.Test.YtcpafdcghlpabaaGreatDoorBu11
set_option linter.unusedVariables false
set_option linter.unusedSimpArgs false
namespace Go.Proofs.YtcpafdcghlpabaaGreatDoor.Bu
open Go.RowKit Go.Shelf Go.Proofs.YtcpafdcghlpabaaGreatDoor.Ar

theorem st_ten : st [10] = ⟨#[10]⟩ := rfl
theorem st_app (a b : Str) : st (a ++ b) = st a ++ st b := by
  apply ByteArray.ext; simp [st]

theorem B_len (T : ByteArray) : (B T).length = T.size := Array.length_toList
theorem not_ten (T : ByteArray) (h : ∀ k (h : k < T.size), T[k] ≠ 10) : (10 : UInt8) ∉ B T := by
  intro hmem
  obtain ⟨i, hi, e⟩ := List.getElem_of_mem hmem
  have hi2 : i < T.size := by rw [← B_len]; exact hi
  exact h i hi2 (e ▸ rfl)

set_option maxHeartbeats 6400000 in
set_option maxRecDepth 100000 in
theorem read_c (W : World) (hG : Gb W) (xs : List Str) (A : Option Addr) (n c : Nat) (hn : xs.length = n) (h20 : n ≤ 20) (hL : IsL W A xs) :
    Calls Tryz.prog 5 #[.slice A n c] W fun e w' => e = .returned (.bool true) ∧ Below W.heap.size W w' := by
  have d0 : decide ((20 : Int) < (n : Int)) = false := by simp; omega
  have hk1 := fun w1 h => known_c W w1 hG h
  have HK := Lib.hid hk1; have HN := Lib.hid hn; have HG := Lib.hid hG; have HL := Lib.hid hL
  clear hk1 hG hn hL
  go_enter Tryz.func5, Tryz.ntmps5
  go_wp2_with fail
  go_loop [3, 4] (fun s i => ∃ j : Nat, j ≤ n ∧ i = .int .i64 j ∧ ∃ X : ByteArray, s = .string X ∧ X.size ≤ 140737488361232 * j ∧ Hid (X = st (cat (xs.take j))) ∧ Hid (∀ k (h : k < xs.length), k < j → (10 : UInt8) ∉ xs[k] ∧ xs[k].length ≤ 60)) (fun _ i => n - (intOf i).toNat)
  case atStart => exact ⟨0, Nat.zero_le _, rfl, _, rfl, by simp [ByteArray.size], rfl, fun _ _ h => absurd h (by omega)⟩
  case round =>
    obtain ⟨j, hj, rfl, X, rfl, hX, HX, HD⟩ := hrel
    by_cases hlt : j < n
    · have hjl : j < xs.length := by rw [HN.out]; exact hlt
      obtain ⟨b, o, rfl, hbW, kc⟩ := HL.out.cell j hjl
      have hsh := HL.out.short j hjl
      rw [← st_size] at hsh
      have HTT : Hid (xs[j] = B (st xs[j])) := by show _ = _; simp
      generalize st xs[j] = T at *
      have g1 : ¬ (9223372036854775807 < X.size + T.size) := by omega
      have g2 : ¬ (9223372036854775807 < X.size + T.size + 1) := by omega
      go_wp2_with fail
      go_loop [5] (fun i => ∃ m : Nat, m ≤ T.size ∧ i = .int .i64 m ∧ Hid (∀ k (h : k < T.size), k < m → T[k] ≠ 10) ∧ Hid (0 < m → T.size ≤ 60)) (fun i => T.size - (intOf i).toNat)
      case atStart => exact ⟨0, Nat.zero_le _, rfl, fun _ _ h => absurd h (by omega), fun h => absurd h (by omega)⟩
      case round =>
        obtain ⟨m, hm, rfl, HM, HS⟩ := hrel
        by_cases hlm : m < T.size
        · by_cases h1 : (T[m].toNat : Int) = 10
          · go_wp2_with fail
            go_ret
            exact ⟨rfl, Below.refl _ _⟩
          · have hne : T[m] ≠ 10 := fun e => h1 (by rw [e]; rfl)
            have HNE := Lib.hid hne; clear hne
            by_cases h2 : (60 : Int) < T.size
            · go_wp2_with fail
              go_ret
              exact ⟨rfl, Below.refl _ _⟩
            · go_wp2_with fail
              go_round
              case rel =>
                refine ⟨m + 1, by omega, by go_num, fun k h hk => ?_, fun _ => by omega⟩
                rcases Nat.lt_or_ge k m with h3 | h3
                · exact HM.out k h h3
                · obtain rfl : k = m := by omega
                  exact HNE.out
              case measure => simp [intOf]; omega
        · obtain rfl : m = T.size := by omega
          go_wp2_with fail
          go_round
          case rel =>
            refine ⟨j + 1, by omega, by go_num, _, rfl, ?_, ?_, ?_⟩
            · have : (X ++ T ++ (⟨#[10]⟩ : ByteArray)).size = X.size + T.size + 1 := by simp [ByteArray.size_append]; rfl
              omega
            · show _ = _
              rw [cat_next xs j hjl, st_app, st_app, ← HX.out, st_ten, HTT.out, st_B]
            · intro k h hk
              rcases Nat.lt_or_ge k j with h3 | h3
              · exact HD.out k h h3
              · obtain rfl : k = j := by omega
                rw [HTT.out]
                refine ⟨not_ten T (fun k h => HM.out k h h), ?_⟩
                · rw [B_len]
                  rcases Nat.eq_zero_or_pos T.size with h5 | h5
                  · omega
                  · exact HS.out h5
          case measure => simp [intOf]; omega
    · obtain rfl : n = j := by omega
      have hk1 : Hid (X = st (cat xs)) := by have := HX.out; rw [List.take_of_length_le (by have := HN.out; omega)] at this; exact this
      go_wp2_with (first
        | (refine wpList_store_row rfl 39 _ _ rfl (W.heap.size) _ rfl rfl 39 _ (blk_new W _) sta_size rfl (sta_one (rdS none 0 0 0 X 0)) ?_; generalize hW : World.setRow _ _ _ = W3; have hs : IsSt W3 W.heap.size (rdS none 0 0 0 X 0) := (by rw [← hW]; exact IsSt.row (s := zeroS) (blk_new W _) _ rfl); have HBW3 : Hid (Below W.heap.size W W3) := (by rw [← hW]; exact below_setRow (below_alloc1 W _) (Nat.le_refl _) _); clear hW; have HS3 := Lib.hid hs; clear hs))
      have hD := Lib.hid (fun k h => HD.out k h (by have := HN.out; omega)); clear HD HX
      have hcl : Hid ((cat xs).length ≤ 1000000) := by have := cat_len_le xs (fun k h => (hD.out k h).2); have := HN.out; show _ ≤ _; omega
      go_loopw [7, 8, 9, 10] (fun i _ _ _ wr => ∃ j : Nat, j ≤ n ∧ i = .int .i64 j ∧ Hid (Below W.heap.size W wr) ∧ ∃ (VA : Option Addr) (nb vc a : Nat) (bs : List Bd), Hid (IsSt wr W.heap.size (rdS VA nb vc 0 X a)) ∧ Hid (bs.length = nb) ∧ Hid (bs = [] ∨ ∃ v, bs = [⟨sX, v⟩]) ∧ Hid (IsB wr VA bs) ∧ Hid (High (W.heap.size + 1) VA) ∧ Hid (a = (cat (xs.take j)).length)) (fun i _ _ _ _ => n - (intOf i).toNat)
      case atStart => exact ⟨0, Nat.zero_le _, rfl, HBW3, none, 0, 0, 0, [], HS3, rfl, .inl rfl, IsB.nil _ _, fun a h => absurd h (by simp), rfl⟩
      case round =>
        obtain ⟨j, hj, rfl, HBw, VA, nb, vc, a, bs, H6, HNB, HBS, HBB, HHI, HA⟩ := hrel
        have hWs : W.heap.size < wr.heap.size := H6.out.lt
        have hle : a ≤ (cat xs).length := by rw [HA.out]; exact cat_le xs j
        have HLE := Lib.hid hle; clear hle
        by_cases hlt : j < n
        · have hjl : j < xs.length := by rw [HN.out]; exact hlt
          have hd1 := cat_at xs j hjl
          rw [← HA.out] at hd1
          have hr := run_line VA nb vc a wr.heap.size (cat xs) xs[j] _ bs _ _ (HG.out.mono (HBw.out.alloc HBw.out.size _)) (read_two wr sX (by decide)) (Below.refl _ _) (HBB.out.keep (below_alloc1 wr _)) HBS.out HLE.out hcl.out hd1 (hD.out j hjl).1 HNB.out
          rw [← hk1.out] at hr
          have hna : Hid (a + xs[j].length + 1 = (cat (xs.take (j + 1))).length) := by show _ = _; rw [cat_next xs j hjl, HA.out]; simp; omega
          generalize a + xs[j].length + 1 = na at *
          have HR := Lib.hid hr; clear hr hd1
          obtain ⟨b, o, rfl, hbW, _⟩ := HL.out.cell j hjl
          have hT : ∀ w1, Below W.heap.size W w1 → w1.cell? ⟨b, o + j, none⟩ = some (.string (st xs[j])) := fun w1 h => HL.out.read (w := w1) h j hjl
          have HTC := Lib.hid hT; clear hT
          go_wp2_with (first
            | (refine wpList_load_row rfl 39 _ rfl (W.heap.size) rfl 39 _ (0, 0) _ H6.out Tryz.underlying39 rfl sta_size ?_)
            | (go_at_call 9; refine (HR.out).mono ?_; rintro e w2 ⟨p, c2, rfl, hc2, hB2, hh2, hb2⟩; obtain ⟨bb, oo, hpe, _, _, hv2⟩ := hB2.cell 0 (by simp); obtain rfl := Option.some.inj hpe; have hv3 : w2.cell? ⟨bb, oo + 1, none⟩ = some (.string (st xs[j])) := (by simpa using hv2); have HV2 := Lib.hid hv3; clear hv2 hv3; have hbl2 : bb < w2.heap.size := (by assumption); have HB2 := Lib.hid hB2; have HC2 := Lib.hid hc2; have HH2 := Lib.hid hh2; clear hB2 hc2 hh2; have HX2 := Lib.hid (HBw.out.trans ((below_alloc1 _ _).trans (hb2.mono (size_alloc_le _ _)) |>.mono HBw.out.size)); have H62 := Lib.hid ((H6.out.alloc _).keep hb2); clear hb2)
            | (refine wpList_store_row rfl 39 _ _ rfl (w2.heap.size) _ rfl rfl 39 _ (blk_new w2 _) sta_size rfl (sta_one (rdS (some ⟨bb, oo, none⟩) 1 c2 0 X na)) ?_; generalize hW : World.setRow _ _ _ = W5; have hs : IsSt W5 w2.heap.size (rdS (some ⟨bb, oo, none⟩) 1 c2 0 X na) := (by rw [← hW]; exact IsSt.row (s := zeroS) (blk_new w2 _) _ rfl); have HBW5 : Hid (Below w2.heap.size w2 W5) := (by rw [← hW]; exact below_setRow (below_alloc1 w2 _) (Nat.le_refl _) _); clear hW; have HS5 := Lib.hid hs; clear hs; have HX5 := Lib.hid (HX2.out.trans (HBW5.out.mono HX2.out.size)); have H65 := Lib.hid (H62.out.keep HBW5.out); have k0 := HS5.out.cells.1; have k4 := HS5.out.cells.2.2.2.2.1; have kv := (HBW5.out.cell (p := ⟨bb, oo + 1, none⟩) hbl2).trans HV2.out; have kt := HTC.out _ HX5.out))
          generalize st xs[j] = TX at kv kt
          go_quiet (fail)
          go_wp2_with (first
            | (refine wpList_load_row rfl 39 _ rfl (w2.heap.size) rfl 39 _ (0, 0) _ HS5.out Tryz.underlying39 rfl sta_size ?_)
            | (refine wpList_store_row rfl 39 _ _ rfl (W.heap.size) _ rfl rfl 39 _ H65.out sta_size rfl (sta_one (rdS (some ⟨bb, oo, none⟩) 1 c2 0 X na)) ?_))
          go_roundw
          case rel =>
            refine ⟨j + 1, by omega, by go_num, below_setRow (bel_drewN HX5.out _) (Nat.le_refl _) _, some ⟨bb, oo, none⟩, 1, c2, na, [⟨sX, xs[j]⟩], H65.out.row (s' := rdS (some ⟨bb, oo, none⟩) 1 c2 0 X na) _ rfl, rfl, .inr ⟨_, rfl⟩, ?_, fun a ha => Nat.le_trans (by simp; omega) (HH2.out a ha), hna.out⟩
            exact IsB.far (base := W.heap.size + 1) (HB2.out.keep HBW5.out) (fun a ha => Nat.le_trans (by simp; omega) (HH2.out a ha)) (by simp) (fun k hk => setRow_other _ _ _ _ (by omega))
          case measure => simp [intOf]; omega
        · obtain rfl : n = j := by omega
          have hd1 : (cat xs).drop a = [] := by rw [HA.out, cat_drop, List.drop_eq_nil_of_le (by have := HN.out; omega)]; rfl
          have hr := run_last VA nb vc a wr.heap.size (cat xs) bs _ _ (HG.out.mono (HBw.out.alloc HBw.out.size _)) (read_two wr sX (by decide)) (Below.refl _ _) HLE.out hcl.out hd1 HNB.out
          have ho := fun w1 (h : Below W.heap.size W w1) => run_one VA nb vc a w1.heap.size (cat xs) bs _ _ (HG.out.mono (h.alloc h.size _)) (read_two w1 sOne (by decide)) (Below.refl _ _) HNB.out
          have hsm := fun w1 (h : Below wr.heap.size wr w1) => same_env bs VA VA nb vc vc wr w1 HBB.out HBB.out HNB.out h (by have := HNB.out; rcases HBS.out with e | ⟨v, e⟩ <;> (rw [e] at this; simp at this; omega))
          rw [← hk1.out] at hr
          simp only [← hk1.out] at ho
          have HR := Lib.hid hr; have HO := Lib.hid ho; have HSM := Lib.hid hsm
          clear hr ho hsm hd1
          have tok1 : True := trivial
          have tok2 : True := trivial
          go_wp2_with (first
            | (refine wpList_load_row rfl 39 _ rfl (W.heap.size) rfl 39 _ (0, 0) _ H6.out Tryz.underlying39 rfl sta_size ?_)
            | (go_at_call 9; have _t := tok1; clear tok1; refine (HR.out).mono ?_; rintro e w2 ⟨rfl, hb2⟩; have HY2 := Lib.hid ((below_alloc1 wr _).trans (hb2.mono (size_alloc_le _ _))); have H62 := Lib.hid ((H6.out.alloc _).keep hb2); clear hb2 H6)
            | (refine wpList_store_row rfl 39 _ _ rfl (w2.heap.size) _ rfl rfl 39 _ (blk_new w2 _) sta_size rfl (sta_one (rdS VA nb vc 1 X a)) ?_; generalize hW : World.setRow _ _ _ = W5; have hs : IsSt W5 w2.heap.size (rdS VA nb vc 1 X a) := (by rw [← hW]; exact IsSt.row (s := zeroS) (blk_new w2 _) _ rfl); have HBW5 : Hid (Below w2.heap.size w2 W5) := (by rw [← hW]; exact below_setRow (below_alloc1 w2 _) (Nat.le_refl _) _); clear hW; have HS5 := Lib.hid hs; clear hs; have HY5 := Lib.hid (HY2.out.trans (HBW5.out.mono HY2.out.size)); have H65 := Lib.hid (H62.out.keep HBW5.out); clear H62; have HX5 := Lib.hid (HBw.out.trans (HY5.out.mono HBw.out.size)))
            | (refine wpList_load_row rfl 39 _ rfl (W.heap.size) rfl 39 _ (0, 0) _ H65.out Tryz.underlying39 rfl sta_size ?_)
            | (go_at_call 9; have _t := tok2; clear tok2; refine (HO.out _ HX5.out).mono ?_; rintro e w6 ⟨rfl, hb6⟩; have HY6 := Lib.hid (HY5.out.trans ((below_alloc1 W5 _).trans (hb6.mono (size_alloc_le _ _)) |>.mono HY5.out.size)); have H66 := Lib.hid ((H65.out.alloc _).keep hb6); have HS6 := Lib.hid ((HS5.out.alloc _).keep hb6); clear hb6 H65 HS5)
            | (refine wpList_store_row rfl 39 _ _ rfl (w6.heap.size) _ rfl rfl 39 _ (blk_new w6 _) sta_size rfl (sta_one (rdS VA nb vc 2 X a)) ?_; generalize hW : World.setRow _ _ _ = W8; have hs : IsSt W8 w6.heap.size (rdS VA nb vc 2 X a) := (by rw [← hW]; exact IsSt.row (s := zeroS) (blk_new w6 _) _ rfl); have HBW8 : Hid (Below w6.heap.size w6 W8) := (by rw [← hW]; exact below_setRow (below_alloc1 w6 _) (Nat.le_refl _) _); clear hW; have HS8 := Lib.hid hs; clear hs; have HY8 := Lib.hid (HY6.out.trans (HBW8.out.mono HY6.out.size)); have H68 := Lib.hid (H66.out.keep HBW8.out); clear H66; have HS68 := Lib.hid (HS6.out.keep HBW8.out); clear HS6; have HX8 := Lib.hid (HBw.out.trans (HY8.out.mono HBw.out.size)); have k0 := HS68.out.cells.1; have k1 := HS68.out.cells.2.1; have k2 := HS68.out.cells.2.2.1; have k4 := HS68.out.cells.2.2.2.2.1; have l0 := H68.out.cells.1; have l1 := H68.out.cells.2.1; have l2 := H68.out.cells.2.2.1)
            | (go_at_call 10; refine (HSM.out _ HY8.out).mono ?_; rintro e w9 ⟨rfl, hb9⟩; have y4 := (HS8.out.keep hb9).cells.2.2.2.2.1; have HX9 := Lib.hid (HX8.out.trans (hb9.mono HX8.out.size)); clear hb9)
            | (go_at_call 8; refine (HK.out _ HX9.out).mono ?_; rintro e w10 ⟨rfl, hb10⟩; have HX10 := Lib.hid (HX9.out.trans (hb10.mono HX9.out.size)); clear hb10))
          go_ret
          exact ⟨rfl, HX10.out⟩
/-- The law, at any lines. -/
theorem read_law (W : World) (hG : Gb W) (xs : List Str) (A : Option Addr) (n c : Nat) (hn : xs.length = n) (hc2 : n ≤ 9223372036854775807) (hL : n ≤ 20 → IsL W A xs) :
    Calls Tryz.prog 5 #[.slice A n c] W fun e w' => e = .returned (.bool true) ∧ Below W.heap.size W w' := by
  by_cases h20 : 20 < n
  · have d0 : decide ((20 : Int) < (n : Int)) = true := by simp; omega
    go_enter Tryz.func5, Tryz.ntmps5
    go_wp2_with fail
    go_ret
    exact ⟨rfl, Below.refl _ _⟩
  · exact read_c W hG xs A n c hn (by omega) (hL (by omega))
end Go.Proofs.YtcpafdcghlpabaaGreatDoor.Bu
