/-
The walks of the reference's reckoner, first part: blanks, signs, reckoning.
-/
import Derived.Test.YtmkajangkibgeaaDoorArithTop
set_option linter.unusedVariables false
set_option linter.unusedSimpArgs false
namespace Go.Proofs.YtmkajangkibgeaaDoor.Ar
open Go.RowKit Go.Shelf

/-- A reckoner at block g. -/
def IsR (w : World) (g : Nat) (S : ByteArray) (A : Option Addr) (m c : Nat) (r : RS) : Prop := w.heap[g]? = some (.cells #[.string S, .int .i64 r.i, .slice A m c, .bool r.form, .bool r.math] 45 (0, 0))
section
variable {w w' : World} {g : Nat} {S : ByteArray} {A : Option Addr} {m c : Nat} {r : RS}
theorem IsR.c0 (h : IsR w g S A m c r) : w.cell? ⟨g, 0, none⟩ = some (.string S) := (blk_cell h 0).trans rfl
theorem IsR.c1 (h : IsR w g S A m c r) : w.cell? ⟨g, 1, none⟩ = some (.int .i64 r.i) := (blk_cell h 1).trans rfl
theorem IsR.c2 (h : IsR w g S A m c r) : w.cell? ⟨g, 2, none⟩ = some (.slice A m c) := (blk_cell h 2).trans rfl
theorem IsR.c3 (h : IsR w g S A m c r) : w.cell? ⟨g, 3, none⟩ = some (.bool r.form) := (blk_cell h 3).trans rfl
theorem IsR.c4 (h : IsR w g S A m c r) : w.cell? ⟨g, 4, none⟩ = some (.bool r.math) := (blk_cell h 4).trans rfl
theorem IsR.f (h : IsR w g S A m c r) (i : Nat) : w.frozen? ⟨g, i, none⟩ = false := blk_frozen h i
theorem IsR.lt (h : IsR w g S A m c r) : g < w.heap.size := blk_lt h
theorem IsR.keep (h : IsR w g S A m c r) (k : Below w.heap.size w w') : IsR w' g S A m c r := (k.block g (blk_lt h)).trans h
theorem IsR.set1 (h : IsR w g S A m c r) (x : Nat) : IsR (w.setCell ⟨g, 1, none⟩ (.int .i64 x)) g S A m c { r with i := x } := (blk_set h 1 _).trans rfl
theorem IsR.set3 (h : IsR w g S A m c r) (x : Bool) : IsR (w.setCell ⟨g, 3, none⟩ (.bool x)) g S A m c { r with form := x } := (blk_set h 3 _).trans rfl
theorem IsR.set4 (h : IsR w g S A m c r) (x : Bool) : IsR (w.setCell ⟨g, 4, none⟩ (.bool x)) g S A m c { r with math := x } := (blk_set h 4 _).trans rfl
theorem IsR.alloc (h : IsR w g S A m c r) (o : Obj) : IsR (w.alloc o) g S A m c r := h.keep ((Below.refl _ _).alloc (Nat.le_refl _) _)
end

set_option maxHeartbeats 400000 in
theorem blank_c (c : UInt8) (w : World) : Calls Tryd.prog 33 #[.int .i32 c.toNat] w fun e w' => e = .returned (.bool (blank c)) ∧ w' = w := by
  have hb : blank c = (((c.toNat : Int) == 32) || ((c.toNat : Int) == 9) || ((c.toNat : Int) == 10)) := by
    have e : ∀ d : UInt8, (c == d) = ((c.toNat : Int) == (d.toNat : Int)) := fun d => by
      rw [Bool.eq_iff_iff]; simp only [beq_iff_eq]
      exact ⟨fun h => by rw [h], fun h => UInt8.toNat_inj.1 (by omega)⟩
    unfold blank
    rw [e, e, e]; rfl
  have HB := Lib.hid hb; clear hb
  cases h1 : ((c.toNat : Int) == 32) <;> cases h2 : ((c.toNat : Int) == 9) <;> cases h3 : ((c.toNat : Int) == 10) <;>
    (have H1 := Lib.hid h1; have H2 := Lib.hid h2; have H3 := Lib.hid h3
     go_enter Tryd.func33, Tryd.ntmps33
     go_wp2
     go_ret
     exact ⟨by rw [HB.out, H1.out, H2.out, H3.out]; rfl, rfl⟩)

theorem wrap32_u8 (c : UInt8) : wrap32 (c.toNat : Int) = c.toNat := by have := c.toNat_lt; unfold wrap32; omega

theorem skipR_step {s : Str} {r : RS} {k : Nat} (hk : k < s.length) (hb : blank s[k] = true) : skipR s { r with i := k } = skipR s { r with i := k + 1 } := by
  unfold skipR
  rw [List.drop_eq_getElem_cons hk, List.takeWhile_cons, if_pos hb]
  simp; omega
theorem skipR_stop {s : Str} {r : RS} {k : Nat} (hb : ∀ h : k < s.length, blank s[k] = false) : skipR s { r with i := k } = { r with i := k } := by
  unfold skipR
  rcases Nat.lt_or_ge k s.length with h | h
  · rw [List.drop_eq_getElem_cons h, List.takeWhile_cons, if_neg (by simp [hb h])]; simp
  · rw [List.drop_eq_nil_of_le h]; simp

set_option maxHeartbeats 1600000 in
set_option maxRecDepth 100000 in
theorem skipR_c (g : Nat) (S : ByteArray) (A : Option Addr) (m c : Nat) (r : RS) (w : World) (h : IsR w g S A m c r) (hl : S.size ≤ 300) (hi : r.i ≤ S.size) :
    Calls Tryd.prog 17 #[ptr g] w fun e w' => e = .returned (.int .u8 (nextR (B S) (skipR (B S) r)).toNat) ∧ IsR w' g S A m c (skipR (B S) r) ∧ But w w' g := by
  obtain ⟨z, hz⟩ : ∃ z, z = skipR (B S) r := ⟨_, rfl⟩
  rw [← hz]
  have HZ := Lib.hid hz; clear hz
  have H := Lib.hid h; clear h
  go_enter Tryd.func17, Tryd.ntmps17
  go_wp2
  go_loopg [] (S.size - r.i) (fun kq wr => ∃ k : Nat, k ≤ S.size ∧ kq = S.size - k ∧ Hid (IsR wr g S A m c { r with i := k }) ∧ Hid (But w wr g) ∧ Hid (z = skipR (B S) { r with i := k }))
  case atStart => exact ⟨r.i, hi, rfl, H, But.refl _ _, HZ.out⟩
  case round =>
    obtain ⟨k, hk, hkq, HR, HB, HE⟩ := hrel
    have HK := Lib.hid hkq; clear hkq
    have k0 := HR.out.c0
    have k1 := HR.out.c1
    have kf := HR.out.f 1
    by_cases hlt : k < S.size
    · have hd : decide ((k : Int) < (S.size : Int)) = true := by simp; exact hlt
      have cb := blank_c S[k]
      cases hbl : blank S[k]
      · rw [hbl] at cb
        have hz2 : z = { r with i := k } := by rw [HE.out]; exact skipR_stop fun _ => hbl
        clear hbl
        have CB := Lib.hid cb; clear cb
        have k3 := HR.out.c3
        have hge : decide ((S.size : Int) ≤ (k : Int)) = false := by simp; omega
        have hb8 : (S[k].toNat : Int) ≤ 255 := by have := S[k].toNat_lt; omega
        cases hf : r.form
        · have hnx : nextR (B S) z = S[k] := by
            rw [hz2]; unfold nextR; rw [if_neg (by simp [hf])]
            show ((B S).drop k).headD 0 = _
            rw [List.drop_eq_getElem_cons (show k < (B S).length from hlt)]; rfl
          have hR2 := HR.out
          rw [← hz2] at hR2
          rw [hf] at k3
          have HN := Lib.hid hnx; clear hnx
          have HR2 := Lib.hid hR2; clear hR2
          have HZ2 := Lib.hid hz2; clear hz2
          have HF := Lib.hid hf; clear hf
          go_wp2_with fail
          go_quiet ((go_at_call 33; (try rw [wrap32_u8]); exact Calls.quiet_of_same (CB.out _)))
          go_wp2
          go_quiet (fail)
          go_wp2
          go_quiet (fail)
          go_wp2
          go_ret
          exact ⟨by rw [HN.out]; rfl, HR2.out, by repeat (first | exact HB.out | apply But.drewN)⟩
        · have hnx : nextR (B S) z = 0 := by rw [hz2]; unfold nextR; rw [if_pos (by simp [hf])]
          have hR2 := HR.out
          rw [← hz2] at hR2
          rw [hf] at k3
          have HN := Lib.hid hnx; clear hnx
          have HR2 := Lib.hid hR2; clear hR2
          have HZ2 := Lib.hid hz2; clear hz2
          have HF := Lib.hid hf; clear hf
          go_wp2_with fail
          go_quiet ((go_at_call 33; (try rw [wrap32_u8]); exact Calls.quiet_of_same (CB.out _)))
          go_wp2
          go_quiet (fail)
          go_wp2
          go_ret
          exact ⟨by rw [HN.out]; rfl, HR2.out, by repeat (first | exact HB.out | apply But.drewN)⟩
      · have hz2 : z = skipR (B S) { r with i := k + 1 } := by rw [HE.out]; exact skipR_step (s := B S) hlt hbl
        rw [hbl] at cb
        clear hbl
        have HZ2 := Lib.hid hz2; clear hz2
        have CB := Lib.hid cb; clear cb
        go_wp2_with fail
        go_quiet ((go_at_call 33; (try rw [wrap32_u8]); exact Calls.quiet_of_same (CB.out _)))
        go_wp2
        go_roundg (S.size - (k + 1))
        case measure => have := HK.out; omega
        case rel => exact ⟨k + 1, by omega, rfl, HR.out.set1 (k + 1), (HB.out.drewN _).set _ _, HZ2.out⟩
    · have hd : decide ((k : Int) < (S.size : Int)) = false := by simp; omega
      have hge : decide ((S.size : Int) ≤ (k : Int)) = true := by simp; omega
      have hz2 : z = { r with i := k } := by rw [HE.out]; exact skipR_stop fun h => absurd h (by rw [B_len]; omega)
      have hnx : nextR (B S) z = 0 := by
        rw [hz2]; unfold nextR
        show (if r.form = true then 0 else ((B S).drop k).headD 0) = 0
        rw [List.drop_eq_nil_of_le (by rw [B_len]; omega)]; simp
      have hR2 := HR.out
      rw [← hz2] at hR2
      have HN := Lib.hid hnx; clear hnx
      have HR2 := Lib.hid hR2; clear hR2
      have HZ2 := Lib.hid hz2; clear hz2
      go_wp2_with fail
      go_quiet (fail)
      go_wp2
      go_quiet (fail)
      go_wp2
      go_ret
      exact ⟨by rw [HN.out]; rfl, HR2.out, by repeat (first | exact HB.out | apply But.drewN)⟩

theorem skipR_form (s : Str) (r : RS) : (skipR s r).form = r.form := rfl
theorem skipR_math (s : Str) (r : RS) : (skipR s r).math = r.math := rfl

theorem ext_prefix (S X : ByteArray) (i : Nat) (hi : i + X.size ≤ S.size) : ((S.extract i (i + X.size)).toList == X.toList) = (B X).isPrefixOf ((B S).drop i) := by
  rw [toList_B, toList_B]
  have e : B (S.extract i (i + X.size)) = ((B S).drop i).take X.size := by
    have := Lib.extract_data S i (i + X.size)
    rw [show i + X.size - i = X.size by omega] at this
    exact this
  rw [e, Bool.eq_iff_iff, beq_iff_eq, List.isPrefixOf_iff_prefix, List.prefix_iff_eq_take]
  rw [B_len]
  exact ⟨fun h => h.symm, fun h => h.symm⟩

set_option maxHeartbeats 1600000 in
set_option maxRecDepth 100000 in
theorem eat_c (g : Nat) (S : ByteArray) (A : Option Addr) (m c : Nat) (r : RS) (x : Str) (w : World) (h : IsR w g S A m c r) (hl : S.size ≤ 300) (hx : x.length ≤ 2) (hi : r.i ≤ S.size) :
    Calls Tryd.prog 31 #[ptr g, .string (st x)] w fun e w' => e = .returned (.bool (eatR (B S) x r).1) ∧ IsR w' g S A m c (eatR (B S) x r).2 ∧ But w w' g := by
  have cs := skipR_c g S A m c r w h hl hi
  have hle := skipR_le (B S) r (by rw [B_len]; exact hi)
  rw [B_len] at hle
  have hex : eatR (B S) x r = if (skipR (B S) r).form ∨ ¬ x.isPrefixOf ((B S).drop (skipR (B S) r).i) then (false, skipR (B S) r) else (true, { skipR (B S) r with i := (skipR (B S) r).i + x.length }) := rfl
  generalize skipR (B S) r = q at *
  generalize eatR (B S) x r = res at *
  have HX := Lib.hid hex; clear hex
  have CS := Lib.hid cs; clear cs
  have H := Lib.hid h; clear h
  obtain ⟨X, hX⟩ : ∃ X, X = st x := ⟨_, rfl⟩
  have hxs : X.size = x.length := by rw [hX]; exact st_size x
  have hbx : B X = x := by rw [hX]
  rw [← hX]
  rw [← hbx, B_len] at HX
  rw [← hxs] at hx
  clear hX hxs hbx
  cases hf : q.form
  · by_cases hb : q.i + X.size ≤ S.size
    · have hp := ext_prefix S X q.i hb
      have hgt : decide ((S.size : Int) < (q.i : Int) + (X.size : Int)) = false := by simp; omega
      cases hpx : (B X).isPrefixOf ((B S).drop q.i)
      · rw [hpx] at hp
        have hres : res = (false, q) := by rw [HX.out, if_pos (.inr (by simp [hpx]))]
        clear hpx
        have HRes := Lib.hid hres; clear hres
        have HF := Lib.hid hf; clear hf
        go_enter Tryd.func31, Tryd.ntmps31
        go_wp2_with (go_at_call 17; refine CS.out.mono ?_; rintro e w1 ⟨rfl, hr1, hb1⟩; have k0 := hr1.c0; have k1 := hr1.c1; have k3 := hr1.c3; rw [HF.out] at k3; have HR1 := Lib.hid hr1; have HB1 := Lib.hid hb1; clear hr1 hb1)
        go_quiet (fail)
        go_wp2
        go_ret
        exact ⟨by rw [HRes.out]; rfl, by rw [HRes.out]; exact HR1.out, by repeat (first | exact HB1.out | apply But.drewN)⟩
      · rw [hpx] at hp
        have hres : res = (true, { q with i := q.i + X.size }) := by rw [HX.out, if_neg (by simp [hpx, hf])]
        clear hpx
        have HRes := Lib.hid hres; clear hres
        have HF := Lib.hid hf; clear hf
        go_enter Tryd.func31, Tryd.ntmps31
        go_wp2_with (go_at_call 17; refine CS.out.mono ?_; rintro e w1 ⟨rfl, hr1, hb1⟩; have k0 := hr1.c0; have k1 := hr1.c1; have k3 := hr1.c3; have kf := hr1.f 1; rw [HF.out] at k3; have HR1 := Lib.hid hr1; have HB1 := Lib.hid hb1; clear hr1 hb1)
        go_quiet (fail)
        go_wp2
        go_ret
        exact ⟨by rw [HRes.out]; rfl, by rw [HRes.out]; exact HR1.out.set1 _, by apply But.set; repeat (first | exact HB1.out | apply But.drewN)⟩
    · have hgt : decide ((S.size : Int) < (q.i : Int) + (X.size : Int)) = true := by simp; omega
      have hnp : (B X).isPrefixOf ((B S).drop q.i) = false := by
        cases hpx : (B X).isPrefixOf ((B S).drop q.i)
        · rfl
        · have := prefix_len hpx
          rw [List.length_drop, B_len, B_len] at this
          omega
      have hres : res = (false, q) := by rw [HX.out, if_pos (.inr (by simp [hnp]))]
      clear hnp
      have HRes := Lib.hid hres; clear hres
      have HF := Lib.hid hf; clear hf
      go_enter Tryd.func31, Tryd.ntmps31
      go_wp2_with (go_at_call 17; refine CS.out.mono ?_; rintro e w1 ⟨rfl, hr1, hb1⟩; have k0 := hr1.c0; have k1 := hr1.c1; have k3 := hr1.c3; rw [HF.out] at k3; have HR1 := Lib.hid hr1; have HB1 := Lib.hid hb1; clear hr1 hb1)
      go_quiet (fail)
      go_wp2
      go_ret
      exact ⟨by rw [HRes.out]; rfl, by rw [HRes.out]; exact HR1.out, by repeat (first | exact HB1.out | apply But.drewN)⟩
  · have hres : res = (false, q) := by rw [HX.out, if_pos (.inl hf)]
    have HRes := Lib.hid hres; clear hres
    have HF := Lib.hid hf; clear hf
    go_enter Tryd.func31, Tryd.ntmps31
    go_wp2_with (go_at_call 17; refine CS.out.mono ?_; rintro e w1 ⟨rfl, hr1, hb1⟩; have k0 := hr1.c0; have k1 := hr1.c1; have k3 := hr1.c3; rw [HF.out] at k3; have HR1 := Lib.hid hr1; have HB1 := Lib.hid hb1; clear hr1 hb1)
    go_quiet (fail)
    go_wp2
    go_ret
    exact ⟨by rw [HRes.out]; rfl, by rw [HRes.out]; exact HR1.out, by repeat (first | exact HB1.out | apply But.drewN)⟩
end Go.Proofs.YtmkajangkibgeaaDoor.Ar
