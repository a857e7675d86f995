/-
The walk of the reckoner's unary at a number or a name.
-/
import Derived.Test.YtmkajangkibgeaaDoorArithR6
set_option linter.unusedVariables false
set_option linter.unusedSimpArgs false
namespace Go.Proofs.YtmkajangkibgeaaDoor.Ar
open Go.RowKit Go.Shelf

theorem tw_cons {q : UInt8 → Bool} {S : ByteArray} {k : Nat} (h : k < S.size) (hq : q S[k] = true) : k + (((B S).drop k).takeWhile q).length = k + 1 + (((B S).drop (k + 1)).takeWhile q).length := by
  rw [List.drop_eq_getElem_cons (show k < (B S).length from h), List.takeWhile_cons, if_pos (by exact hq)]
  simp; omega
theorem tw_stop {q : UInt8 → Bool} {S : ByteArray} {k : Nat} (hq : ∀ h : k < S.size, q S[k] = false) : k + (((B S).drop k).takeWhile q).length = k := by
  rcases Nat.lt_or_ge k S.size with h | h
  · rw [List.drop_eq_getElem_cons (show k < (B S).length from h), List.takeWhile_cons, if_neg (by have := hq h; simp; exact this)]; simp
  · rw [List.drop_eq_nil_of_le (by rw [B_len]; omega)]; simp
theorem tw_ext {q : UInt8 → Bool} {S : ByteArray} {i K : Nat} (hK : K = i + (((B S).drop i).takeWhile q).length) : B (S.extract i K) = ((B S).drop i).takeWhile q := by
  have := Lib.extract_data S i K
  have e : B (S.extract i K) = ((B S).drop i).take (K - i) := this
  rw [e, hK, Nat.add_sub_cancel_left, take_tw]

theorem digit_split (c : UInt8) (h : digit c = false) : (decide ((48 : Int) ≤ c.toNat) = false) ∨ ((48 : Int) ≤ c.toNat ∧ decide ((c.toNat : Int) ≤ 57) = false) := by
  unfold digit at h
  by_cases h1 : (48 : Int) ≤ c.toNat
  · right
    refine ⟨h1, ?_⟩
    simp at h ⊢
    omega
  · left; simp; omega
theorem digit_le (c : UInt8) (h : digit c = true) : (48 : Int) ≤ c.toNat ∧ (c.toNat : Int) ≤ 57 := by
  unfold digit at h; simp at h; omega

theorem quiet_again {P : Program} {f : FuncId} {args : Array Value} {w : World} {a n : Nat} {v : Value}
    (h : Calls P f args (w.drewN (a + n)) fun e w' => e = .returned v ∧ w' = w.drewN (a + n)) :
    Calls P f args (w.drewN (a + n)) fun e w'' => e = .returned v ∧ ∃ m, w'' = w.drewN (a + m) :=
  h.mono fun _ _ ⟨he, hm⟩ => ⟨he, n, hm⟩

set_option maxHeartbeats 3200000 in
set_option maxRecDepth 100000 in
theorem ratom_digit (x : RC) (hx : x.Ok) (q q1 q2 q3 : RS) (w : World) (e1 : eatR (B x.S) [45] q = (false, q1)) (e2 : eatR (B x.S) [33] q1 = (false, q2)) (e3 : eatR (B x.S) [40] q2 = (false, q3)) (h : IsR w x.g x.S x.A x.vars.length x.c q) (hi : q.i ≤ x.S.size)
    (hd : digit (nextR (B x.S) (skipR (B x.S) q3)) = true) :
    Calls Tryd.prog 59 #[ptr x.g] w fun e w' => e = .returned (.int .i64 (atomR (B x.S) x.vars (skipR (B x.S) q3)).1) ∧ IsR w' x.g x.S x.A x.vars.length x.c (atomR (B x.S) x.vars (skipR (B x.S) q3)).2 ∧ But w w' x.g := by
  have l0 := eatR_le (B x.S) [45] q (by rw [B_len]; omega)
  rw [e1, B_len] at l0
  simp only at l0
  have l1 := eatR_le (B x.S) [33] q1 (by rw [B_len]; omega)
  rw [e2, B_len] at l1
  simp only at l1
  have l2 := eatR_le (B x.S) [40] q2 (by rw [B_len]; omega)
  rw [e3, B_len] at l2
  simp only at l2
  have c0 := fun w1 (h1 : IsR w1 x.g x.S x.A x.vars.length x.c q) => x.eat hx [45] (by decide) q w1 h1 (by omega)
  have c1 := fun w1 (h1 : IsR w1 x.g x.S x.A x.vars.length x.c q1) => x.eat hx [33] (by decide) q1 w1 h1 (by omega)
  have c2 := fun w1 (h1 : IsR w1 x.g x.S x.A x.vars.length x.c q2) => x.eat hx [40] (by decide) q2 w1 h1 (by omega)
  rw [e1] at c0
  rw [e2] at c1
  rw [e3] at c2
  have c3 := fun w1 (h1 : IsR w1 x.g x.S x.A x.vars.length x.c q3) => skipR_c x.g x.S x.A x.vars.length x.c q3 w1 h1 hx.2.2.2 (by omega)
  have hs := skipR_le (B x.S) q3 (by rw [B_len]; omega)
  rw [B_len] at hs
  generalize skipR (B x.S) q3 = rs at *
  have hat : atomR (B x.S) x.vars rs = ((numZ (((B x.S).drop rs.i).takeWhile digit)).getD 0, { rs with i := rs.i + (((B x.S).drop rs.i).takeWhile digit).length, math := rs.math || (numZ (((B x.S).drop rs.i).takeWhile digit)).isNone }) := by
    unfold atomR; rw [if_pos hd]
  have htl := tw_le digit ((B x.S).drop rs.i)
  rw [List.length_drop, B_len] at htl
  obtain ⟨K, hK⟩ : ∃ K, K = rs.i + (((B x.S).drop rs.i).takeWhile digit).length := ⟨_, rfl⟩
  have cn := fun w1 => numR_c (x.S.extract rs.i K) w1 (by rw [← B_len, tw_ext hK]; have := hx.2.2.2; omega)
  rw [tw_ext hK] at cn
  rw [← hK] at hat
  generalize numZ (((B x.S).drop rs.i).takeWhile digit) = nz at *
  obtain ⟨V, hV⟩ : ∃ V, V = nz.getD 0 := ⟨_, rfl⟩
  obtain ⟨ok, hok⟩ : ∃ ok, ok = nz.isSome := ⟨_, rfl⟩
  have hok2 : nz.isNone = !ok := by rw [hok]; cases nz <;> rfl
  rw [← hV, ← hok] at cn
  rw [← hV, hok2] at hat
  rw [hat]
  have hdl := digit_le _ hd
  have hKi : rs.i ≤ K := by omega
  have hKs : K ≤ x.S.size := by omega
  generalize nextR (B x.S) rs = c at *
  obtain ⟨d1, d2⟩ := hdl
  have hsz := hx.2.2.2
  have C0 := Lib.hid c0; have C1 := Lib.hid c1; have C2 := Lib.hid c2; have C3 := Lib.hid c3; have CN := Lib.hid cn; have HQ := Lib.hid h; have HK := Lib.hid hK
  clear c0 c1 c2 c3 cn h e1 e2 e3 hd hat hK hV hok hok2 hx l0 l1 l2 htl
  cases hm : rs.math <;> cases ok
  all_goals
    have HM := Lib.hid hm; clear hm
    have tok0 : True := trivial; have tok1 : True := trivial; have tok2 : True := trivial
    go_enter Tryd.func59, Tryd.ntmps59
    go_wp2_with (first
      | (go_at_call 31; have _t := tok0; refine (C0.out _ HQ.out).mono ?_; clear tok0; rintro e v0 ⟨rfl, hr1, hb1⟩; have E0 := Lib.hid hr1; have F0 := Lib.hid hb1; clear hr1 hb1)
      | (go_at_call 31; have _t := tok1; refine (C1.out _ E0.out).mono ?_; clear tok1; rintro e v1 ⟨rfl, hr1, hb1⟩; have E1 := Lib.hid hr1; have F1 := Lib.hid (F0.out.trans hb1); clear hr1 hb1)
      | (go_at_call 31; have _t := tok2; refine (C2.out _ E1.out).mono ?_; clear tok2; rintro e v2 ⟨rfl, hr1, hb1⟩; have E2 := Lib.hid hr1; have F2 := Lib.hid (F1.out.trans hb1); clear hr1 hb1)
      | (go_at_call 17; refine (C3.out _ E2.out).mono ?_; rintro e v3 ⟨rfl, hr1, hb1⟩; have k1 := hr1.c1; have E3 := Lib.hid hr1; have F3 := Lib.hid (F2.out.trans hb1); clear hr1 hb1))
    go_loopg [] (x.S.size - rs.i) (fun kq wr => ∃ k : Nat, rs.i ≤ k ∧ k ≤ x.S.size ∧ kq = x.S.size - k ∧ Hid (IsR wr x.g x.S x.A x.vars.length x.c { rs with i := k }) ∧ Hid (But w wr x.g) ∧ Hid (K = k + (((B x.S).drop k).takeWhile digit).length))
    case atStart => exact ⟨rs.i, Nat.le_refl _, hs, rfl, E3, F3, HK.out⟩
    case round =>
      clear k1
      obtain ⟨k, hk0, hk, hkq, HR, HB, HE⟩ := hrel
      have HK2 := Lib.hid hkq; clear hkq
      have k0 := HR.out.c0
      have k1 := HR.out.c1
      have kf := HR.out.f 1
      by_cases hlt : k < x.S.size
      · have hd : decide ((k : Int) < (x.S.size : Int)) = true := by simp; exact hlt
        cases hbl : digit x.S[k]
        · have hz : K = k := by rw [HE.out]; exact tw_stop fun _ => hbl
          subst hz
          have k4 := HR.out.c4
          have kf4 := HR.out.f 4
          rw [show (RS.mk K rs.form rs.math).math = rs.math from rfl, HM.out] at k4
          rcases digit_split _ hbl with g1 | ⟨g1, g2⟩
          all_goals
            clear hbl
            go_wp2_with fail
            go_quiet (fail)
            go_wp2
            go_quiet ((go_at_call 11; (first | exact Calls.quiet_of_same (CN.out _) | exact quiet_again (CN.out _))))
            go_wp2
            go_ret
            exact ⟨rfl, (by exact HR.out.set4 _), by repeat (first | exact HB.out | apply But.set | apply But.drewN)⟩
        · obtain ⟨g1, g2⟩ := digit_le _ hbl
          have hz2 : K = k + 1 + (((B x.S).drop (k + 1)).takeWhile digit).length := by rw [HE.out]; exact tw_cons hlt hbl
          have HZ2 := Lib.hid hz2; clear hz2 hbl
          go_wp2_with fail
          go_quiet (fail)
          go_wp2
          go_roundg (x.S.size - (k + 1))
          case measure => have := HK2.out; omega
          case rel => exact ⟨k + 1, by omega, by omega, rfl, HR.out.set1 (k + 1), (HB.out.drewN _).set _ _, HZ2.out⟩
      · have hd : decide ((k : Int) < (x.S.size : Int)) = false := by simp; omega
        have hz : K = k := by rw [HE.out]; exact tw_stop fun h => absurd h hlt
        subst hz
        have k4 := HR.out.c4
        have kf4 := HR.out.f 4
        rw [show (RS.mk K rs.form rs.math).math = rs.math from rfl, HM.out] at k4
        go_wp2_with fail
        go_quiet (fail)
        go_wp2
        go_quiet ((go_at_call 11; (first | exact Calls.quiet_of_same (CN.out _) | exact quiet_again (CN.out _))))
        go_wp2
        go_ret
        exact ⟨rfl, (by exact HR.out.set4 _), by repeat (first | exact HB.out | apply But.set | apply But.drewN)⟩
end Go.Proofs.YtmkajangkibgeaaDoor.Ar
