/-
The walk of the reckoner's value; of its unary, prod, sum, expr.
-/
import Derived.Test.YtmkajangkibgeaaDoorRunes
set_option linter.unusedVariables false
set_option linter.unusedSimpArgs false
namespace Go.Proofs.YtmkajangkibgeaaDoor.Ar
open Go.RowKit Go.Shelf

theorem valueR_eq (vars : List Bind) (name : Str) (r : RS) : valueR vars name r = ((valueZ name vars).getD 0, { r with math := r.math || (valueZ name vars).isNone }) := rfl

set_option maxHeartbeats 3200000 in
set_option maxRecDepth 100000 in
theorem valueR_c (vars : List Bind) (name : Str) (g : Nat) (S : ByteArray) (A : Option Addr) (c : Nat) (r : RS) (w0 w : World) (hv : IsV w0 A vars) (hb : Below w0.heap.size w0 w) (hg : w0.heap.size ≤ g) (h : IsR w g S A vars.length c r) :
    Calls Tryd.prog 81 #[ptr g, .string (st name)] w fun e w' => e = .returned (.int .i64 (valueR vars name r).1) ∧ IsR w' g S A vars.length c (valueR vars name r).2 ∧ But w w' g := by
  obtain ⟨V, hV⟩ : ∃ V, V = (valueZ name vars).getD 0 := ⟨_, rfl⟩
  obtain ⟨mm, hmm⟩ : ∃ mm, mm = (r.math || (valueZ name vars).isNone) := ⟨_, rfl⟩
  have hex : valueR vars name r = (V, { r with math := mm }) := by rw [hV, hmm]; rfl
  rw [hex]
  clear hex
  have hl := hv.len
  have hcell := fun w1 (h1 : Below w0.heap.size w0 w1) => hv.at_ h1
  have hshort := hv.short
  obtain ⟨n, hn⟩ : ∃ n, n = vars.length := ⟨_, rfl⟩
  rw [← hn] at hl h ⊢
  have k2 := h.c2
  have k4 := h.c4
  have kf := h.f 4
  have HN := Lib.hid hn; clear hn
  have HV := Lib.hid hV; clear hV
  have HM := Lib.hid hmm; clear hmm
  have HC := Lib.hid (hcell w hb); clear hcell
  have HSh := Lib.hid hshort; clear hshort
  have H := Lib.hid h; clear h
  clear hv hb
  obtain ⟨NM, hNM⟩ : ∃ NM, NM = st name := ⟨_, rfl⟩
  rw [← hNM]
  have HNM := Lib.hid hNM; clear hNM
  go_enter Tryd.func81, Tryd.ntmps81
  go_wp2
  go_loop [5] (fun i => ∃ k : Nat, k ≤ n ∧ i = .int .i64 k ∧ Hid (∀ j (h : j < vars.length), j < k → (vars[j].name == name) = false)) (fun i => n - (intOf i).toNat)
  case atStart => exact ⟨0, Nat.zero_le _, rfl, fun _ _ h => absurd h (by omega)⟩
  case round =>
    obtain ⟨k, hk, rfl, HNo⟩ := hrel
    by_cases hlt : k < n
    · have hkv : k < vars.length := by have := HN.out; omega
      obtain ⟨b, o, rfl, hblt, c1, c2⟩ := HC.out k hkv
      have hvh := fun hy => value_hit (name := name) (vars := vars) hkv HNo.out hy
      have hsh := HSh.out k hkv
      have hnx : (vars[k].name == name) = false → ∀ j (h : j < vars.length), j < k + 1 → (vars[j].name == name) = false := fun hy j h hj => by
        rcases Nat.lt_or_ge j k with h3 | h3
        · exact HNo.out j h h3
        · obtain rfl : j = k := by omega
          exact hy
      generalize vars[k].name = nm at *
      generalize vars[k].value = vl at *
      have hnm : ((st nm).toList == NM.toList) = (nm == name) := by rw [HNM.out, opS, opS]
      cases hq : (nm == name)
      · rw [hq] at hnm
        have HNx : Hid (∀ j (h : j < vars.length), j < k + 1 → (vars[j].name == name) = false) := hnx hq
        clear hnx hvh hq c2
        obtain ⟨SN, hSN⟩ : ∃ SN, SN = st nm := ⟨_, rfl⟩
        rw [← hSN] at hnm c1
        clear hSN
        go_wp2
        go_round
        case rel => exact ⟨k + 1, by omega, by go_num, HNx⟩
        case measure => simp [intOf]; omega
      · rw [hq] at hnm
        have hvv := hvh hq
        clear hnx hvh hq
        obtain ⟨SN, hSN⟩ : ∃ SN, SN = st nm := ⟨_, rfl⟩
        rw [← hSN] at hnm c1
        clear hSN
        have cn := fun w => numR_c (st vl) w (by rw [st_size]; exact hsh)
        rw [B_st] at cn
        by_cases hv0 : vl = []
        · rw [if_pos hv0] at hvv
          have hem := st_empty_true hv0
          have hV2 : V = 0 := by rw [HV.out, hvv]; rfl
          have hM2 : mm = r.math := by rw [HM.out, hvv]; simp
          have HV2 := Lib.hid hV2; have HM2 := Lib.hid hM2
          clear hV2 hM2 hvv hv0 cn
          generalize st vl = SV at *
          go_wp2
          go_ret
          exact ⟨by rw [HV2.out]; rfl, by rw [HM2.out]; exact H.out, But.refl _ _⟩
        · rw [if_neg hv0] at hvv
          have hem := st_empty_false hv0
          have hV2 : V = (numZ vl).getD 0 := by rw [HV.out, hvv]
          have hM2 : mm = (r.math || (numZ vl).isNone) := by rw [HM.out, hvv]
          rw [← hV2] at cn
          have hM3 : mm = (r.math || !(numZ vl).isSome) := by rw [hM2]; cases numZ vl <;> rfl
          clear hV2 hM2 hvv hv0
          generalize (numZ vl).isSome = ok at *
          generalize st vl = SV at *
          have CN := Lib.hid cn; clear cn
          cases hrm : r.math <;> cases ok
          all_goals
            rw [hrm] at k4 hM3
            simp only [Bool.or_true, Bool.true_or, Bool.or_false, Bool.false_or, Bool.not_true, Bool.not_false] at hM3
            have HM3 := Lib.hid hM3
            have HRM := Lib.hid hrm
            clear hM3 hrm
            go_wp2_with (go_at_call 11; refine (CN.out _).mono ?_; rintro e w' ⟨rfl, rfl⟩)
            go_ret
            exact ⟨rfl, by rw [HM3.out]; exact H.out.set4 _, (But.refl _ _).set _ _⟩
    · have hvm := value_miss (name := name) (vars := vars) fun j hj => HNo.out j hj (by have := HN.out; omega)
      have hV2 : V = 0 := by rw [HV.out, hvm]; rfl
      have hM2 : mm = r.math := by rw [HM.out, hvm]; simp
      have HV2 := Lib.hid hV2; have HM2 := Lib.hid hM2
      clear hV2 hM2 hvm
      go_wp2_with fail
      go_ret
      exact ⟨by rw [HV2.out]; rfl, by rw [HM2.out]; exact H.out, But.refl _ _⟩
end Go.Proofs.YtmkajangkibgeaaDoor.Ar
