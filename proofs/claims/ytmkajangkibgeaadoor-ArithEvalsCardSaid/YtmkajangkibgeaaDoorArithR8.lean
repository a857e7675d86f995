/-
The walk of the reckoner's unary at a name.
-/
import Derived.Test.YtmkajangkibgeaaDoorArithR7
import Derived.Deep.RegionHeld3
import Derived.StillTailTactics
set_option linter.unusedVariables false
set_option linter.unusedSimpArgs false
namespace Go.Proofs.YtmkajangkibgeaaDoor.Ar
open Go.RowKit Go.Shelf



set_option maxHeartbeats 3200000 in
set_option maxRecDepth 100000 in
theorem ratom_name (x : RC) (hx : x.Ok) (q q1 q2 q3 : RS) (w : World) (e1 : eatR (B x.S) [45] q = (false, q1)) (e2 : eatR (B x.S) [33] q1 = (false, q2)) (e3 : eatR (B x.S) [40] q2 = (false, q3)) (h : IsR w x.g x.S x.A x.vars.length x.c q) (hi : q.i ≤ x.S.size)
    (hd : digit (nextR (B x.S) (skipR (B x.S) q3)) = false) (hB : ∀ w1, But w w1 x.g → Below x.w0.heap.size x.w0 w1) :
    Calls Tryd.prog 59 #[ptr x.g] w fun e w' => e = .returned (.int .i64 (atomR (B x.S) x.vars (skipR (B x.S) q3)).1) ∧ IsR w' x.g x.S x.A x.vars.length x.c (atomR (B x.S) x.vars (skipR (B x.S) q3)).2 ∧ But w w' x.g := by
  have l0 := eatR_le (B x.S) [45] q (by rw [B_len]; omega)
  rw [e1, B_len] at l0
  simp only at l0
  have l1 := eatR_le (B x.S) [33] q1 (by rw [B_len]; omega)
  rw [e2, B_len] at l1
  simp only at l1
  have l2 := eatR_le (B x.S) [40] q2 (by rw [B_len]; omega)
  rw [e3, B_len] at l2
  simp only at l2
  have c0 := fun w1 (h1 : IsR w1 x.g x.S x.A x.vars.length x.c q) => x.eat hx [45] (by decide) q w1 h1 (by omega)
  have c1 := fun w1 (h1 : IsR w1 x.g x.S x.A x.vars.length x.c q1) => x.eat hx [33] (by decide) q1 w1 h1 (by omega)
  have c2 := fun w1 (h1 : IsR w1 x.g x.S x.A x.vars.length x.c q2) => x.eat hx [40] (by decide) q2 w1 h1 (by omega)
  rw [e1] at c0
  rw [e2] at c1
  rw [e3] at c2
  have c3 := fun w1 (h1 : IsR w1 x.g x.S x.A x.vars.length x.c q3) => skipR_c x.g x.S x.A x.vars.length x.c q3 w1 h1 hx.2.2.2 (by omega)
  have hs := skipR_le (B x.S) q3 (by rw [B_len]; omega)
  rw [B_len] at hs
  generalize skipR (B x.S) q3 = rs at *
  have hat : atomR (B x.S) x.vars rs = (if rs.form = true ∨ isName (((B x.S).drop rs.i).takeWhile more) = false then (0, { rs with i := rs.i + (((B x.S).drop rs.i).takeWhile more).length, form := true })
      else valueR x.vars (((B x.S).drop rs.i).takeWhile more) { rs with i := rs.i + (((B x.S).drop rs.i).takeWhile more).length }) := by
    unfold atomR; rw [if_neg (by rw [hd]; simp)]
  have htl := tw_le more ((B x.S).drop rs.i)
  rw [List.length_drop, B_len] at htl
  obtain ⟨K, hK⟩ : ∃ K, K = rs.i + (((B x.S).drop rs.i).takeWhile more).length := ⟨_, rfl⟩
  have hte := tw_ext hK
  rw [← hK, ← hte] at hat
  have hsz := hx.2.2.2
  have hKi : rs.i ≤ K := by omega
  have hKs : K ≤ x.S.size := by omega
  have hxs : (B (x.S.extract rs.i K)).length ≤ 2147483647 := by rw [hte]; omega
  have cn := fun w1 (h1 : But w w1 x.g) => nameR_c (B (x.S.extract rs.i K)) x.w0 w1 hx.1 (hB w1 h1) hxs
  rw [st_B] at cn
  have cv := fun w1 (h1 : But w w1 x.g) (r : RS) h2 => valueR_c x.vars (B (x.S.extract rs.i K)) x.g x.S x.A x.c r x.w0 w1 hx.2.1 (hB w1 h1) hx.2.2.1 h2
  rw [st_B] at cv
  have hcd := digit_split _ hd
  have hc8 : ((nextR (B x.S) rs).toNat : Int) ≤ 255 := by have := (nextR (B x.S) rs).toNat_lt; omega
  generalize nextR (B x.S) rs = c at *
  obtain ⟨res, hres⟩ : ∃ res, res = atomR (B x.S) x.vars rs := ⟨_, rfl⟩
  rw [← hres]
  rw [← hres] at hat
  have C0 := Lib.hid c0; have C1 := Lib.hid c1; have C2 := Lib.hid c2; have C3 := Lib.hid c3; have CN := Lib.hid cn; have CV := Lib.hid cv; have HQ := Lib.hid h; have HK := Lib.hid hK; have HA := Lib.hid hat; have HCD := Lib.hid hcd
  clear c0 c1 c2 c3 cn cv h e1 e2 e3 hd hat hK hx l0 l1 l2 htl hte hres hcd hB
  generalize hnm : isName (B (x.S.extract rs.i K)) = nm at *
  have tok0 : True := trivial; have tok1 : True := trivial; have tok2 : True := trivial
  clear hnm
  cases hf : rs.form
  case true =>
    have HF := Lib.hid hf; clear hf
    have hr : res = (0, { rs with i := K, form := true }) := by rw [HA.out, if_pos (.inl HF.out)]
    have HRes := Lib.hid hr; clear hr HA
    rcases HCD.out with d1 | ⟨d1, d2⟩
    all_goals
      go_enter Tryd.func59, Tryd.ntmps59
      go_wp2_with (first
        | (go_at_call 31; have _t := tok0; refine (C0.out _ HQ.out).mono ?_; clear tok0; rintro e v0 ⟨rfl, hr1, hb1⟩; have E0 := Lib.hid hr1; have F0 := Lib.hid hb1; clear hr1 hb1)
        | (go_at_call 31; have _t := tok1; refine (C1.out _ E0.out).mono ?_; clear tok1; rintro e v1 ⟨rfl, hr1, hb1⟩; have E1 := Lib.hid hr1; have F1 := Lib.hid (F0.out.trans hb1); clear hr1 hb1)
        | (go_at_call 31; have _t := tok2; refine (C2.out _ E1.out).mono ?_; clear tok2; rintro e v2 ⟨rfl, hr1, hb1⟩; have E2 := Lib.hid hr1; have F2 := Lib.hid (F1.out.trans hb1); clear hr1 hb1)
        | (go_at_call 17; refine (C3.out _ E2.out).mono ?_; rintro e v3 ⟨rfl, hr1, hb1⟩; have k1 := hr1.c1; have E3 := Lib.hid hr1; have F3 := Lib.hid (F2.out.trans hb1); clear hr1 hb1))
      go_loopg [] (x.S.size - rs.i) (fun kq wr => ∃ k : Nat, rs.i ≤ k ∧ k ≤ x.S.size ∧ kq = x.S.size - k ∧ Hid (IsR wr x.g x.S x.A x.vars.length x.c { rs with i := k }) ∧ Hid (But w wr x.g) ∧ Hid (K = k + (((B x.S).drop k).takeWhile more).length))
      case atStart => exact ⟨rs.i, Nat.le_refl _, hs, rfl, E3, F3, HK.out⟩
      case round =>
        clear k1
        obtain ⟨k, hk0, hk, hkq, HR, HB, HE⟩ := hrel
        have HK2 := Lib.hid hkq; clear hkq
        have k0 := HR.out.c0
        have k1 := HR.out.c1
        have kf := HR.out.f 1
        by_cases hlt : k < x.S.size
        · have hd : decide ((k : Int) < (x.S.size : Int)) = true := by simp; exact hlt
          have cm := rMore_c x.S[k].toNat
          rw [moreZ_u8] at cm
          cases hbl : more x.S[k]
          · have hz : K = k := by rw [HE.out]; exact tw_stop fun _ => hbl
            rw [hbl] at cm
            have CM := Lib.hid cm; clear cm
            subst hz
            clear hbl
            have k3 := HR.out.c3
            have kf3 := HR.out.f 3
            rw [show (RS.mk K rs.form rs.math).form = rs.form from rfl, HF.out] at k3
            go_wp2_with fail
            go_quiet ((go_at_call 79; (try rw [wrap32_u8]); exact Calls.quiet_of_same (CM.out _)))
            go_wp2
            go_quiet (fail)
            go_wp2
            go_ret
            exact ⟨by rw [HRes.out]; rfl, by rw [HRes.out]; exact HR.out.set3 _, by repeat (first | exact HB.out | apply But.set | apply But.drewN)⟩
          · rw [hbl] at cm
            have CM := Lib.hid cm; clear cm
            have hz2 : K = k + 1 + (((B x.S).drop (k + 1)).takeWhile more).length := by rw [HE.out]; exact tw_cons hlt hbl
            have HZ2 := Lib.hid hz2; clear hz2 hbl
            go_wp2_with fail
            go_quiet ((go_at_call 79; (try rw [wrap32_u8]); exact Calls.quiet_of_same (CM.out _)))
            go_wp2
            go_roundg (x.S.size - (k + 1))
            case measure => have := HK2.out; omega
            case rel => exact ⟨k + 1, by omega, by omega, rfl, HR.out.set1 (k + 1), (HB.out.drewN _).set _ _, HZ2.out⟩
        · have hd : decide ((k : Int) < (x.S.size : Int)) = false := by simp; omega
          have hz : K = k := by rw [HE.out]; exact tw_stop fun h => absurd h hlt
          subst hz
          have k3 := HR.out.c3
          have kf3 := HR.out.f 3
          rw [show (RS.mk K rs.form rs.math).form = rs.form from rfl, HF.out] at k3
          go_wp2_with fail
          go_quiet (fail)
          go_wp2
          go_quiet (fail)
          go_wp2
          go_ret
          exact ⟨by rw [HRes.out]; rfl, by rw [HRes.out]; exact HR.out.set3 _, by repeat (first | exact HB.out | apply But.set | apply But.drewN)⟩
  case false =>
    have HF := Lib.hid hf; clear hf
    cases nm
    case false =>
      have hr : res = (0, { rs with i := K, form := true }) := by rw [HA.out, if_pos (.inr rfl)]
      have HRes := Lib.hid hr; clear hr HA
      rcases HCD.out with d1 | ⟨d1, d2⟩
      all_goals
        go_enter Tryd.func59, Tryd.ntmps59
        go_wp2_with (first
          | (go_at_call 31; have _t := tok0; refine (C0.out _ HQ.out).mono ?_; clear tok0; rintro e v0 ⟨rfl, hr1, hb1⟩; have E0 := Lib.hid hr1; have F0 := Lib.hid hb1; clear hr1 hb1)
          | (go_at_call 31; have _t := tok1; refine (C1.out _ E0.out).mono ?_; clear tok1; rintro e v1 ⟨rfl, hr1, hb1⟩; have E1 := Lib.hid hr1; have F1 := Lib.hid (F0.out.trans hb1); clear hr1 hb1)
          | (go_at_call 31; have _t := tok2; refine (C2.out _ E1.out).mono ?_; clear tok2; rintro e v2 ⟨rfl, hr1, hb1⟩; have E2 := Lib.hid hr1; have F2 := Lib.hid (F1.out.trans hb1); clear hr1 hb1)
          | (go_at_call 17; refine (C3.out _ E2.out).mono ?_; rintro e v3 ⟨rfl, hr1, hb1⟩; have k1 := hr1.c1; have E3 := Lib.hid hr1; have F3 := Lib.hid (F2.out.trans hb1); clear hr1 hb1))
        go_loopg [] (x.S.size - rs.i) (fun kq wr => ∃ k : Nat, rs.i ≤ k ∧ k ≤ x.S.size ∧ kq = x.S.size - k ∧ Hid (IsR wr x.g x.S x.A x.vars.length x.c { rs with i := k }) ∧ Hid (But w wr x.g) ∧ Hid (K = k + (((B x.S).drop k).takeWhile more).length))
        case atStart => exact ⟨rs.i, Nat.le_refl _, hs, rfl, E3, F3, HK.out⟩
        case round =>
          clear k1
          obtain ⟨k, hk0, hk, hkq, HR, HB, HE⟩ := hrel
          have HK2 := Lib.hid hkq; clear hkq
          have k0 := HR.out.c0
          have k1 := HR.out.c1
          have kf := HR.out.f 1
          by_cases hlt : k < x.S.size
          · have hd : decide ((k : Int) < (x.S.size : Int)) = true := by simp; exact hlt
            have cm := rMore_c x.S[k].toNat
            rw [moreZ_u8] at cm
            cases hbl : more x.S[k]
            · have hz : K = k := by rw [HE.out]; exact tw_stop fun _ => hbl
              rw [hbl] at cm
              have CM := Lib.hid cm; clear cm
              subst hz
              clear hbl
              have k3 := HR.out.c3
              have kf3 := HR.out.f 3
              rw [show (RS.mk K rs.form rs.math).form = rs.form from rfl, HF.out] at k3
              go_wp2_with fail
              go_quiet ((go_at_call 79; (try rw [wrap32_u8]); exact Calls.quiet_of_same (CM.out _)))
              go_wp2
              generalize hwd : World.drewN _ _ = wd
              have HR1 : Hid (IsR wd x.g x.S x.A x.vars.length x.c { rs with i := K }) := by rw [← hwd]; exact HR.out
              have HB1 : Hid (But w wd x.g) := by rw [← hwd]; exact HB.out.drewN _
              clear hwd k0 k1 k3 kf kf3
              have k0 := HR1.out.c0
              have k1 := HR1.out.c1
              have k3 := HR1.out.c3
              rw [show (RS.mk K rs.form rs.math).form = rs.form from rfl, HF.out] at k3
              go_region_held3 (fun w' => w'.cell? ⟨x.g, 0, none⟩ = some (.string x.S) ∧ w'.cell? ⟨x.g, 1, none⟩ = some (.int .i64 K) ∧ w'.cell? ⟨x.g, 3, none⟩ = some (.bool false) ∧ Hid (IsR w' x.g x.S x.A x.vars.length x.c { rs with i := K }) ∧ Hid (But w w' x.g))
                (first
                  | exact ⟨k09, k19, k39, HR9, HB9⟩
                  | exact ⟨by exact k0, by exact k1, by exact k3, by exact HR1, by exact Lib.hid (HB1.out.drewN 1)⟩)
                (first
                  | (go_at_call 80; refine (CN.out _ (by exact HB1.out.drewN 1)).mono ?_; rintro e w9 ⟨rfl, hb9⟩; have HR9 := Lib.hid (IsR.keep (w := wd.drew) HR1.out hb9); have HB9 := Lib.hid ((HB1.out.drewN 1).trans (But.of_below hb9 x.g)); have k09 := HR9.out.c0; have k19 := HR9.out.c1; have k39 := HR9.out.c3; rw [show (RS.mk K rs.form rs.math).form = rs.form from rfl, HF.out] at k39; have kf9 := HR9.out.f 3; clear hb9))
              go_wp2
              go_ret
              exact ⟨by rw [HRes.out]; rfl, by rw [HRes.out]; exact HR9.out.set3 _, HB9.out.set _ _⟩
            · rw [hbl] at cm
              have CM := Lib.hid cm; clear cm
              have hz2 : K = k + 1 + (((B x.S).drop (k + 1)).takeWhile more).length := by rw [HE.out]; exact tw_cons hlt hbl
              have HZ2 := Lib.hid hz2; clear hz2 hbl
              go_wp2_with fail
              go_quiet ((go_at_call 79; (try rw [wrap32_u8]); exact Calls.quiet_of_same (CM.out _)))
              go_wp2
              go_roundg (x.S.size - (k + 1))
              case measure => have := HK2.out; omega
              case rel => exact ⟨k + 1, by omega, by omega, rfl, HR.out.set1 (k + 1), (HB.out.drewN _).set _ _, HZ2.out⟩
          · have hd : decide ((k : Int) < (x.S.size : Int)) = false := by simp; omega
            have hz : K = k := by rw [HE.out]; exact tw_stop fun h => absurd h hlt
            subst hz
            have k3 := HR.out.c3
            have kf3 := HR.out.f 3
            rw [show (RS.mk K rs.form rs.math).form = rs.form from rfl, HF.out] at k3
            go_wp2_with fail
            go_quiet (fail)
            go_wp2
            generalize hwd : World.drewN _ _ = wd
            have HR1 : Hid (IsR wd x.g x.S x.A x.vars.length x.c { rs with i := K }) := by rw [← hwd]; exact HR.out
            have HB1 : Hid (But w wd x.g) := by rw [← hwd]; exact HB.out.drewN _
            clear hwd k0 k1 k3 kf kf3
            have k0 := HR1.out.c0
            have k1 := HR1.out.c1
            have k3 := HR1.out.c3
            rw [show (RS.mk K rs.form rs.math).form = rs.form from rfl, HF.out] at k3
            go_region_held3 (fun w' => w'.cell? ⟨x.g, 0, none⟩ = some (.string x.S) ∧ w'.cell? ⟨x.g, 1, none⟩ = some (.int .i64 K) ∧ w'.cell? ⟨x.g, 3, none⟩ = some (.bool false) ∧ Hid (IsR w' x.g x.S x.A x.vars.length x.c { rs with i := K }) ∧ Hid (But w w' x.g))
              (first
                | exact ⟨k09, k19, k39, HR9, HB9⟩
                | exact ⟨by exact k0, by exact k1, by exact k3, by exact HR1, by exact Lib.hid (HB1.out.drewN 1)⟩)
              (first
                | (go_at_call 80; refine (CN.out _ (by exact HB1.out.drewN 1)).mono ?_; rintro e w9 ⟨rfl, hb9⟩; have HR9 := Lib.hid (IsR.keep (w := wd.drew) HR1.out hb9); have HB9 := Lib.hid ((HB1.out.drewN 1).trans (But.of_below hb9 x.g)); have k09 := HR9.out.c0; have k19 := HR9.out.c1; have k39 := HR9.out.c3; rw [show (RS.mk K rs.form rs.math).form = rs.form from rfl, HF.out] at k39; have kf9 := HR9.out.f 3; clear hb9))
            go_wp2
            go_ret
            exact ⟨by rw [HRes.out]; rfl, by rw [HRes.out]; exact HR9.out.set3 _, HB9.out.set _ _⟩
    case true =>
      have hr : res = valueR x.vars (B (x.S.extract rs.i K)) { rs with i := K } := by rw [HA.out, if_neg (by rw [HF.out]; simp)]
      have HRes := Lib.hid hr; clear hr HA
      rcases HCD.out with d1 | ⟨d1, d2⟩
      all_goals
        go_enter Tryd.func59, Tryd.ntmps59
        go_wp2_with (first
          | (go_at_call 31; have _t := tok0; refine (C0.out _ HQ.out).mono ?_; clear tok0; rintro e v0 ⟨rfl, hr1, hb1⟩; have E0 := Lib.hid hr1; have F0 := Lib.hid hb1; clear hr1 hb1)
          | (go_at_call 31; have _t := tok1; refine (C1.out _ E0.out).mono ?_; clear tok1; rintro e v1 ⟨rfl, hr1, hb1⟩; have E1 := Lib.hid hr1; have F1 := Lib.hid (F0.out.trans hb1); clear hr1 hb1)
          | (go_at_call 31; have _t := tok2; refine (C2.out _ E1.out).mono ?_; clear tok2; rintro e v2 ⟨rfl, hr1, hb1⟩; have E2 := Lib.hid hr1; have F2 := Lib.hid (F1.out.trans hb1); clear hr1 hb1)
          | (go_at_call 17; refine (C3.out _ E2.out).mono ?_; rintro e v3 ⟨rfl, hr1, hb1⟩; have k1 := hr1.c1; have E3 := Lib.hid hr1; have F3 := Lib.hid (F2.out.trans hb1); clear hr1 hb1))
        go_loopg [] (x.S.size - rs.i) (fun kq wr => ∃ k : Nat, rs.i ≤ k ∧ k ≤ x.S.size ∧ kq = x.S.size - k ∧ Hid (IsR wr x.g x.S x.A x.vars.length x.c { rs with i := k }) ∧ Hid (But w wr x.g) ∧ Hid (K = k + (((B x.S).drop k).takeWhile more).length))
        case atStart => exact ⟨rs.i, Nat.le_refl _, hs, rfl, E3, F3, HK.out⟩
        case round =>
          clear k1
          obtain ⟨k, hk0, hk, hkq, HR, HB, HE⟩ := hrel
          have HK2 := Lib.hid hkq; clear hkq
          have k0 := HR.out.c0
          have k1 := HR.out.c1
          have kf := HR.out.f 1
          by_cases hlt : k < x.S.size
          · have hd : decide ((k : Int) < (x.S.size : Int)) = true := by simp; exact hlt
            have cm := rMore_c x.S[k].toNat
            rw [moreZ_u8] at cm
            cases hbl : more x.S[k]
            · have hz : K = k := by rw [HE.out]; exact tw_stop fun _ => hbl
              rw [hbl] at cm
              have CM := Lib.hid cm; clear cm
              subst hz
              clear hbl
              have k3 := HR.out.c3
              have kf3 := HR.out.f 3
              rw [show (RS.mk K rs.form rs.math).form = rs.form from rfl, HF.out] at k3
              go_wp2_with fail
              go_quiet ((go_at_call 79; (try rw [wrap32_u8]); exact Calls.quiet_of_same (CM.out _)))
              go_wp2
              generalize hwd : World.drewN _ _ = wd
              have HR1 : Hid (IsR wd x.g x.S x.A x.vars.length x.c { rs with i := K }) := by rw [← hwd]; exact HR.out
              have HB1 : Hid (But w wd x.g) := by rw [← hwd]; exact HB.out.drewN _
              clear hwd k0 k1 k3 kf kf3
              have k0 := HR1.out.c0
              have k1 := HR1.out.c1
              have k3 := HR1.out.c3
              rw [show (RS.mk K rs.form rs.math).form = rs.form from rfl, HF.out] at k3
              go_region_held3 (fun w' => w'.cell? ⟨x.g, 0, none⟩ = some (.string x.S) ∧ w'.cell? ⟨x.g, 1, none⟩ = some (.int .i64 K) ∧ w'.cell? ⟨x.g, 3, none⟩ = some (.bool false) ∧ Hid (IsR w' x.g x.S x.A x.vars.length x.c { rs with i := K }) ∧ Hid (But w w' x.g))
                (first
                  | exact ⟨k09, k19, k39, HR9, HB9⟩
                  | exact ⟨by exact k0, by exact k1, by exact k3, by exact HR1, by exact Lib.hid (HB1.out.drewN 1)⟩)
                (first
                  | (go_at_call 80; refine (CN.out _ (by exact HB1.out.drewN 1)).mono ?_; rintro e w9 ⟨rfl, hb9⟩; have HR9 := Lib.hid (IsR.keep (w := wd.drew) HR1.out hb9); have HB9 := Lib.hid ((HB1.out.drewN 1).trans (But.of_below hb9 x.g)); have k09 := HR9.out.c0; have k19 := HR9.out.c1; have k39 := HR9.out.c3; rw [show (RS.mk K rs.form rs.math).form = rs.form from rfl, HF.out] at k39; have kf9 := HR9.out.f 3; clear hb9))
              go_wp2
              clear k0 k1 k3
              go_still_tail 11, (by kernel_rfl)
              go_wp2_with (go_at_call 81; refine (CV.out _ (by exact HB9.out.drewN 1) _ (by exact HR9.out)).mono ?_; rintro e w10 ⟨rfl, hr10, hb10⟩; have HR10 := Lib.hid hr10; have HB10 := Lib.hid hb10; clear hr10 hb10)
              go_ret
              exact ⟨by rw [HRes.out]; rfl, by rw [HRes.out]; exact HR10.out, (HB9.out.drewN 1).trans HB10.out⟩
            · rw [hbl] at cm
              have CM := Lib.hid cm; clear cm
              have hz2 : K = k + 1 + (((B x.S).drop (k + 1)).takeWhile more).length := by rw [HE.out]; exact tw_cons hlt hbl
              have HZ2 := Lib.hid hz2; clear hz2 hbl
              go_wp2_with fail
              go_quiet ((go_at_call 79; (try rw [wrap32_u8]); exact Calls.quiet_of_same (CM.out _)))
              go_wp2
              go_roundg (x.S.size - (k + 1))
              case measure => have := HK2.out; omega
              case rel => exact ⟨k + 1, by omega, by omega, rfl, HR.out.set1 (k + 1), (HB.out.drewN _).set _ _, HZ2.out⟩
          · have hd : decide ((k : Int) < (x.S.size : Int)) = false := by simp; omega
            have hz : K = k := by rw [HE.out]; exact tw_stop fun h => absurd h hlt
            subst hz
            have k3 := HR.out.c3
            have kf3 := HR.out.f 3
            rw [show (RS.mk K rs.form rs.math).form = rs.form from rfl, HF.out] at k3
            go_wp2_with fail
            go_quiet (fail)
            go_wp2
            generalize hwd : World.drewN _ _ = wd
            have HR1 : Hid (IsR wd x.g x.S x.A x.vars.length x.c { rs with i := K }) := by rw [← hwd]; exact HR.out
            have HB1 : Hid (But w wd x.g) := by rw [← hwd]; exact HB.out.drewN _
            clear hwd k0 k1 k3 kf kf3
            have k0 := HR1.out.c0
            have k1 := HR1.out.c1
            have k3 := HR1.out.c3
            rw [show (RS.mk K rs.form rs.math).form = rs.form from rfl, HF.out] at k3
            go_region_held3 (fun w' => w'.cell? ⟨x.g, 0, none⟩ = some (.string x.S) ∧ w'.cell? ⟨x.g, 1, none⟩ = some (.int .i64 K) ∧ w'.cell? ⟨x.g, 3, none⟩ = some (.bool false) ∧ Hid (IsR w' x.g x.S x.A x.vars.length x.c { rs with i := K }) ∧ Hid (But w w' x.g))
              (first
                | exact ⟨k09, k19, k39, HR9, HB9⟩
                | exact ⟨by exact k0, by exact k1, by exact k3, by exact HR1, by exact Lib.hid (HB1.out.drewN 1)⟩)
              (first
                | (go_at_call 80; refine (CN.out _ (by exact HB1.out.drewN 1)).mono ?_; rintro e w9 ⟨rfl, hb9⟩; have HR9 := Lib.hid (IsR.keep (w := wd.drew) HR1.out hb9); have HB9 := Lib.hid ((HB1.out.drewN 1).trans (But.of_below hb9 x.g)); have k09 := HR9.out.c0; have k19 := HR9.out.c1; have k39 := HR9.out.c3; rw [show (RS.mk K rs.form rs.math).form = rs.form from rfl, HF.out] at k39; have kf9 := HR9.out.f 3; clear hb9))
            go_wp2
            clear k0 k1 k3
            go_still_tail 11, (by kernel_rfl)
            go_wp2_with (go_at_call 81; refine (CV.out _ (by exact HB9.out.drewN 1) _ (by exact HR9.out)).mono ?_; rintro e w10 ⟨rfl, hr10, hb10⟩; have HR10 := Lib.hid hr10; have HB10 := Lib.hid hb10; clear hr10 hb10)
            go_ret
            exact ⟨by rw [HRes.out]; rfl, by rw [HRes.out]; exact HR10.out, (HB9.out.drewN 1).trans HB10.out⟩
end Go.Proofs.YtmkajangkibgeaaDoor.Ar
