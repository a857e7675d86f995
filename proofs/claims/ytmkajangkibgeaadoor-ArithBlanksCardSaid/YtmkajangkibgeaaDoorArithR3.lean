/-
The walks of the reference's digits, turned, Num.
-/
import Derived.Test.YtmkajangkibgeaaDoorArithR2
set_option linter.unusedVariables false
set_option linter.unusedSimpArgs false
namespace Go.Proofs.YtmkajangkibgeaaDoor.Ar
open Go.RowKit Go.Shelf

theorem natFrom_snoc (l : Str) (c : UInt8) (acc : Nat) : natFrom acc (l ++ [c]) = 10 * natFrom acc l + (c.toNat - 48) := by
  unfold natFrom; rw [List.foldl_append]; rfl
theorem natFrom_split (l : Str) (k acc : Nat) : natFrom acc l = natFrom (natFrom acc (l.take k)) (l.drop k) := by
  unfold natFrom
  rw [← List.foldl_append, List.take_append_drop]
theorem take_succ_B (S : ByteArray) (k : Nat) (h : k < S.size) : (B S).take (k + 1) = (B S).take k ++ [S[k]] := by
  rw [List.take_succ_eq_append_getElem (by rw [B_len]; exact h)]; rfl

set_option maxHeartbeats 1600000 in
set_option maxRecDepth 100000 in
theorem digits_c (S : ByteArray) (w : World) (hl : S.size ≤ 140737488351232) (hd : ∀ k (h : k < S.size), digit S[k] = true) :
    Calls Tryd.prog 22 #[.string S] w fun e w' => e = .returned (.tuple #[.int .i64 (if natOf (B S) ≤ 9223372036854775807 then (natOf (B S) : Int) else 0), .bool (decide (natOf (B S) ≤ 9223372036854775807))]) ∧ w' = w := by
  obtain ⟨T, hT⟩ : ∃ T, T = natOf (B S) := ⟨_, rfl⟩
  rw [← hT]
  have HT := Lib.hid hT; clear hT
  obtain ⟨V, hV⟩ : ∃ V, V = (if T ≤ 9223372036854775807 then (T : Int) else 0) := ⟨_, rfl⟩
  obtain ⟨ok, hok⟩ : ∃ ok, ok = decide (T ≤ 9223372036854775807) := ⟨_, rfl⟩
  rw [← hV, ← hok]
  have HV := Lib.hid hV; clear hV
  have HO := Lib.hid hok; clear hok
  have HD := Lib.hid hd; clear hd
  go_enter Tryd.func22, Tryd.ntmps22
  go_wp2
  go_loop [4, 5] (fun n i => ∃ k N : Nat, k ≤ S.size ∧ i = .int .i64 k ∧ n = .int .i64 N ∧ N ≤ 9223372036854775807 ∧ Hid (N = natFrom 0 ((B S).take k))) (fun _ i => S.size - (intOf i).toNat)
  case atStart => exact ⟨0, 0, Nat.zero_le _, rfl, rfl, by omega, rfl⟩
  case round =>
    obtain ⟨k, N, hk, rfl, rfl, hN, HN⟩ := hrel
    by_cases hlt : k < S.size
    · obtain ⟨d1, d2⟩ := (digit_iff _).1 (HD.out k hlt)
      have d1' : (48 : Int) ≤ (S[k].toNat : Int) := by omega
      have d2' : (S[k].toNat : Int) ≤ 57 := by omega
      have hs := take_succ_B S k hlt
      have hsn : natFrom 0 ((B S).take (k + 1)) = 10 * N + (S[k].toNat - 48) := by rw [hs, natFrom_snoc, ← HN.out]
      have hge : 10 * N + (S[k].toNat - 48) ≤ T := by
        rw [HT.out]
        show _ ≤ natFrom 0 (B S)
        rw [natFrom_split (B S) (k + 1) 0, hsn]
        exact natFrom_ge _ _
      clear hs d1 d2
      have HSn := Lib.hid hsn; clear hsn
      by_cases hov : (9223372036854775807 - ((S[k].toNat : Int) - 48)) / 10 < (N : Int)
      · have hbig : ¬ T ≤ 9223372036854775807 := by omega
        have HB := Lib.hid hbig; clear hbig hge
        go_wp2
        go_ret2
        exact ⟨by rw [HV.out, HO.out, if_neg HB.out, decide_eq_false HB.out]; rfl, rfl⟩
      · have HG := Lib.hid hge; clear hge
        go_wp2
        go_round
        case rel => exact ⟨k + 1, 10 * N + (S[k].toNat - 48), by omega, by go_num, by congr 1; omega, by omega, HSn.out.symm⟩
        case measure => simp [intOf]; omega
    · obtain rfl : k = S.size := by omega
      have hTN : T = N := by
        rw [HT.out, HN.out, List.take_of_length_le (by rw [B_len]; exact Nat.le_refl _)]; rfl
      have HTN := Lib.hid hTN; clear hTN
      go_wp2
      go_ret2
      exact ⟨by rw [HV.out, HO.out, HTN.out, if_pos hN, decide_eq_true hN]; rfl, rfl⟩

set_option maxHeartbeats 1600000 in
set_option maxRecDepth 100000 in
theorem turned_c (S : ByteArray) (w : World) (hl : S.size ≤ 140737488351232) (hd : ∀ k (h : k < S.size), digit S[k] = true) :
    Calls Tryd.prog 21 #[.string S] w fun e w' => e = .returned (.tuple #[.int .i64 (if natOf (B S) ≤ 9223372036854775808 then -(natOf (B S) : Int) else 0), .bool (decide (natOf (B S) ≤ 9223372036854775808))]) ∧ w' = w := by
  obtain ⟨T, hT⟩ : ∃ T, T = natOf (B S) := ⟨_, rfl⟩
  rw [← hT]
  have HT := Lib.hid hT; clear hT
  obtain ⟨V, hV⟩ : ∃ V, V = (if T ≤ 9223372036854775808 then -(T : Int) else 0) := ⟨_, rfl⟩
  obtain ⟨ok, hok⟩ : ∃ ok, ok = decide (T ≤ 9223372036854775808) := ⟨_, rfl⟩
  rw [← hV, ← hok]
  have HV := Lib.hid hV; clear hV
  have HO := Lib.hid hok; clear hok
  have HD := Lib.hid hd; clear hd
  go_enter Tryd.func21, Tryd.ntmps21
  go_wp2
  go_loop [4, 5] (fun n i => ∃ k N : Nat, k ≤ S.size ∧ i = .int .i64 k ∧ n = .int .i64 (-(N : Int)) ∧ N ≤ 9223372036854775808 ∧ Hid (N = natFrom 0 ((B S).take k))) (fun _ i => S.size - (intOf i).toNat)
  case atStart => exact ⟨0, 0, Nat.zero_le _, rfl, rfl, by omega, rfl⟩
  case round =>
    obtain ⟨k, N, hk, rfl, rfl, hN, HN⟩ := hrel
    by_cases hlt : k < S.size
    · obtain ⟨d1, d2⟩ := (digit_iff _).1 (HD.out k hlt)
      have d1' : (48 : Int) ≤ (S[k].toNat : Int) := by omega
      have d2' : (S[k].toNat : Int) ≤ 57 := by omega
      have hs := take_succ_B S k hlt
      have hsn : natFrom 0 ((B S).take (k + 1)) = 10 * N + (S[k].toNat - 48) := by rw [hs, natFrom_snoc, ← HN.out]
      have hge : 10 * N + (S[k].toNat - 48) ≤ T := by
        rw [HT.out]
        show _ ≤ natFrom 0 (B S)
        rw [natFrom_split (B S) (k + 1) 0, hsn]
        exact natFrom_ge _ _
      clear hs d1 d2
      have HSn := Lib.hid hsn; clear hsn
      have htd : (-9223372036854775808 + ((S[k].toNat : Int) - 48)).tdiv 10 = -((9223372036854775808 - ((S[k].toNat : Int) - 48)) / 10) := by
        rw [show -9223372036854775808 + ((S[k].toNat : Int) - 48) = -(9223372036854775808 - ((S[k].toNat : Int) - 48)) by omega, Int.neg_tdiv, Int.tdiv_eq_ediv_of_nonneg (by omega)]
      by_cases hov : -(N : Int) < (-9223372036854775808 + ((S[k].toNat : Int) - 48)).tdiv 10
      · have hbig : ¬ T ≤ 9223372036854775808 := by rw [htd] at hov; omega
        have HB := Lib.hid hbig; clear hbig hge
        have HTd := Lib.hid htd; clear htd
        go_wp2
        go_ret2
        exact ⟨by rw [HV.out, HO.out, if_neg HB.out, decide_eq_false HB.out]; rfl, rfl⟩
      · have hle : 10 * N + (S[k].toNat - 48) ≤ 9223372036854775808 := by rw [htd] at hov; omega
        have HG := Lib.hid hge; clear hge
        have HTd := Lib.hid htd; clear htd
        go_wp2
        go_round
        case rel => exact ⟨k + 1, 10 * N + (S[k].toNat - 48), by omega, by go_num, by congr 1; omega, by omega, HSn.out.symm⟩
        case measure => simp [intOf]; omega
    · obtain rfl : k = S.size := by omega
      have hTN : T = N := by
        rw [HT.out, HN.out, List.take_of_length_le (by rw [B_len]; exact Nat.le_refl _)]; rfl
      have HTN := Lib.hid hTN; clear hTN
      go_wp2
      go_ret2
      exact ⟨by rw [HV.out, HO.out, HTN.out, if_pos hN, decide_eq_true hN]; rfl, rfl⟩

theorem all_digit (S : ByteArray) : (B S).all digit = true ↔ ∀ k (h : k < S.size), digit S[k] = true := by
  rw [List.all_eq_true]
  constructor
  · intro h k hk; exact h _ (List.getElem_mem (show k < (B S).length from hk))
  · intro h c hc
    obtain ⟨k, hk, rfl⟩ := List.getElem_of_mem hc
    exact h k hk

/-- What the reference makes of digits behind a perhaps. -/
def numT (neg : Bool) (l : Str) : Option Int :=
  if l ≠ [] ∧ l.all digit = true ∧ natOf l ≤ (if neg then 9223372036854775808 else 9223372036854775807) then some (if neg then -(natOf l : Int) else natOf l) else none
theorem numZ_neg (r : Str) : numZ (45 :: r) = numT true r := by unfold numZ numT; simp
theorem numZ_pos (l : Str) (h : l.head? ≠ some 45) : numZ l = numT false l := by
  cases l with
  | nil => rfl
  | cons c r =>
    have hc : ¬ c = 45 := fun e => h (by rw [e]; rfl)
    unfold numZ numT; simp [hc]

set_option maxHeartbeats 3200000 in
set_option maxRecDepth 100000 in
theorem numR_c (S : ByteArray) (w : World) (hl : S.size ≤ 140737488351232) :
    Calls Tryd.prog 11 #[.string S] w fun e w' => e = .returned (.tuple #[.int .i64 ((numZ (B S)).getD 0), .bool (numZ (B S)).isSome]) ∧ w' = w := by
  obtain ⟨neg, T, hT, hz, hslot, hneg⟩ : ∃ (neg : Bool) (T : ByteArray), T.size ≤ 140737488351232 ∧ numZ (B S) = numT neg (B T) ∧ (T = if neg then S.extract 1 S.size else S) ∧ ((neg = true ∧ ∃ h : 0 < S.size, ((S[0].toNat : Int) == 45) = true) ∨ (neg = false ∧ (S.size = 0 ∨ ∃ h : 0 < S.size, ((S[0].toNat : Int) == 45) = false))) := by
    by_cases h0 : 0 < S.size
    · have hB : B S = S[0] :: (B S).drop 1 := by
        exact List.drop_eq_getElem_cons (l := B S) (i := 0) h0
      by_cases h1 : S[0] = 45
      · refine ⟨true, S.extract 1 S.size, by simp; omega, ?_, rfl, .inl ⟨rfl, h0, by rw [h1]; rfl⟩⟩
        rw [hB, h1, numZ_neg]
        congr 1
        have := Lib.extract_data S 1 S.size
        rw [List.take_of_length_le (by rw [List.length_drop, ← ByteArray.size_data]; simp)] at this
        exact this.symm
      · refine ⟨false, S, hl, numZ_pos _ (by rw [hB]; simp [h1]), rfl, .inr ⟨rfl, .inr ⟨h0, ?_⟩⟩⟩
        rw [beq_eq_false_iff_ne]
        intro e
        exact h1 (UInt8.toNat_inj.1 (by show S[0].toNat = 45; omega))
    · refine ⟨false, S, hl, numZ_pos _ ?_, rfl, .inr ⟨rfl, .inl (by omega)⟩⟩
      have : B S = [] := List.eq_nil_of_length_eq_zero (by rw [B_len]; omega)
      rw [this]; simp
  rw [hz]
  clear hz
  obtain ⟨V, hV⟩ : ∃ V, V = (numT neg (B T)).getD 0 := ⟨_, rfl⟩
  obtain ⟨ok, hok⟩ : ∃ ok, ok = (numT neg (B T)).isSome := ⟨_, rfl⟩
  rw [← hV, ← hok]
  have HV := Lib.hid hV; clear hV
  have HO := Lib.hid hok; clear hok
  have hnone : (¬ ∀ k (h : k < T.size), digit T[k] = true) → V = 0 ∧ ok = false := by
    intro h
    have : ¬ (B T).all digit = true := fun e => h ((all_digit T).1 e)
    have e : numT neg (B T) = none := by unfold numT; rw [if_neg (by intro hh; exact this hh.2.1)]
    rw [HV.out, HO.out, e]; exact ⟨rfl, rfl⟩
  have hempty : T.size = 0 → V = 0 ∧ ok = false := by
    intro h
    have hb : B T = [] := List.eq_nil_of_length_eq_zero h
    have e : numT neg (B T) = none := by unfold numT; rw [if_neg (by intro hh; exact hh.1 hb)]
    rw [HV.out, HO.out, e]; exact ⟨rfl, rfl⟩
  have hall : ∀ (ha : ∀ k (h : k < T.size), digit T[k] = true), T.size ≠ 0 → numT neg (B T) = if natOf (B T) ≤ (if neg then 9223372036854775808 else 9223372036854775807) then some (if neg then -(natOf (B T) : Int) else natOf (B T)) else none := by
    intro ha h0
    have hb : B T ≠ [] := fun e => h0 (by rw [← B_len, e]; rfl)
    unfold numT
    by_cases hc : natOf (B T) ≤ (if neg then 9223372036854775808 else 9223372036854775807)
    · rw [if_pos ⟨hb, (all_digit T).2 ha, hc⟩, if_pos hc]
    · rw [if_neg (fun hh => hc hh.2.2), if_neg hc]
  have HNone := Lib.hid hnone; have HEmpty := Lib.hid hempty; have HAll := Lib.hid hall
  clear hnone hempty hall
  have rest : True := trivial
  rcases hneg with ⟨rfl, h0, h45⟩ | ⟨rfl, h45⟩
  · have hsl : S.extract 1 S.size = T := by rw [hslot]; rfl
    have hszT : S.size - 1 = T.size := by rw [hslot]; simp
    have hpos : (0 : Int) < S.size := by omega
    have HSz := Lib.hid hszT; clear hszT hslot
    have h1s : (1 : Int) ≤ S.size := by omega
    go_enter Tryd.func11, Tryd.ntmps11
    go_wp2
    go_loop [5] (fun i => ∃ k : Nat, k ≤ T.size ∧ i = .int .i64 k ∧ Hid (∀ j (h : j < T.size), j < k → digit T[j] = true)) (fun i => T.size - (intOf i).toNat)
    case atStart => exact ⟨0, Nat.zero_le _, rfl, fun _ _ h => absurd h (by omega)⟩
    case round =>
      obtain ⟨k, hk, rfl, HD⟩ := hrel
      by_cases hlt : k < T.size
      · by_cases h1 : (T[k].toNat : Int) < 48
        · have hn := HNone.out (fun h => by have := (digit_iff _).1 (h k hlt); omega)
          have HN := Lib.hid hn; clear hn
          go_wp2
          go_ret2
          exact ⟨by rw [HN.out.1, HN.out.2]; rfl, rfl⟩
        · by_cases h2 : (57 : Int) < (T[k].toNat : Int)
          · have hn := HNone.out (fun h => by have := (digit_iff _).1 (h k hlt); omega)
            have HN := Lib.hid hn; clear hn
            go_wp2
            go_ret2
            exact ⟨by rw [HN.out.1, HN.out.2]; rfl, rfl⟩
          · have hdk : digit T[k] = true := (digit_iff _).2 (by omega)
            have HDk := Lib.hid hdk; clear hdk
            go_wp2
            go_round
            case rel =>
              refine ⟨k + 1, by omega, by go_num, fun j h hj => ?_⟩
              rcases Nat.lt_or_ge j k with h3 | h3
              · exact HD.out j h h3
              · obtain rfl : j = k := by omega
                exact HDk.out
            case measure => simp [intOf]; omega
      · have hda : ∀ j (h : j < T.size), digit T[j] = true := fun j h => HD.out j h (by omega)
        by_cases hz : T.size = 0
        · have hn := HEmpty.out hz
          have HN := Lib.hid hn; clear hn hda
          have hz' : (T.size : Int) = 0 := by omega
          obtain rfl : k = 0 := by omega
          have HZ := Lib.hid hz; clear hz hz'
          have e0 : ((T.size : Int) == 0) = true := beq_iff_eq.2 (by have := HZ.out; omega)
          have elt : decide ((0 : Int) < (T.size : Int)) = false := by have := HZ.out; simp [this]
          go_wp2
          go_ret2
          exact ⟨by rw [HN.out.1, HN.out.2]; rfl, rfl⟩
        · have e0 : ((T.size : Int) == 0) = false := beq_eq_false_iff_ne.2 (by omega)
          have ha := HAll.out hda hz
          have cc := turned_c T w hT hda
          have hV2 : V = (if natOf (B T) ≤ 9223372036854775808 then -(natOf (B T) : Int) else 0) := by
            rw [HV.out, ha]; simp; split <;> rfl
          have hO2 : ok = decide (natOf (B T) ≤ 9223372036854775808) := by
            rw [HO.out, ha]; simp; split <;> simp_all
          rw [← hV2, ← hO2] at cc
          have CC := Lib.hid cc
          clear cc hV2 hO2 ha hda
          go_wp2_with (go_at_call 21; refine CC.out.mono ?_; rintro e w' ⟨rfl, rfl⟩)
          go_ret2
          exact ⟨rfl, rfl⟩
  · have hsl : T = S := by rw [hslot]; rfl
    subst hsl
    clear hslot
    rcases h45 with h0 | ⟨h0, h45⟩
    · have e00 : (T.size : Int) ≤ 0 := by omega
      have H0 := Lib.hid h0; clear h0
      go_enter Tryd.func11, Tryd.ntmps11
      go_wp2
      go_loop [5] (fun i => ∃ k : Nat, k ≤ T.size ∧ i = .int .i64 k ∧ Hid (∀ j (h : j < T.size), j < k → digit T[j] = true)) (fun i => T.size - (intOf i).toNat)
      case atStart => exact ⟨0, Nat.zero_le _, rfl, fun _ _ h => absurd h (by omega)⟩
      case round =>
        obtain ⟨k, hk, rfl, HD⟩ := hrel
        by_cases hlt : k < T.size
        · by_cases h1 : (T[k].toNat : Int) < 48
          · have hn := HNone.out (fun h => by have := (digit_iff _).1 (h k hlt); omega)
            have HN := Lib.hid hn; clear hn
            go_wp2
            go_ret2
            exact ⟨by rw [HN.out.1, HN.out.2]; rfl, rfl⟩
          · by_cases h2 : (57 : Int) < (T[k].toNat : Int)
            · have hn := HNone.out (fun h => by have := (digit_iff _).1 (h k hlt); omega)
              have HN := Lib.hid hn; clear hn
              go_wp2
              go_ret2
              exact ⟨by rw [HN.out.1, HN.out.2]; rfl, rfl⟩
            · have hdk : digit T[k] = true := (digit_iff _).2 (by omega)
              have HDk := Lib.hid hdk; clear hdk
              go_wp2
              go_round
              case rel =>
                refine ⟨k + 1, by omega, by go_num, fun j h hj => ?_⟩
                rcases Nat.lt_or_ge j k with h3 | h3
                · exact HD.out j h h3
                · obtain rfl : j = k := by omega
                  exact HDk.out
              case measure => simp [intOf]; omega
        · have hda : ∀ j (h : j < T.size), digit T[j] = true := fun j h => HD.out j h (by omega)
          by_cases hz : T.size = 0
          · have hn := HEmpty.out hz
            have HN := Lib.hid hn; clear hn hda
            have hz' : (T.size : Int) = 0 := by omega
            obtain rfl : k = 0 := by omega
            have HZ := Lib.hid hz; clear hz hz'
            have e0 : ((T.size : Int) == 0) = true := beq_iff_eq.2 (by have := HZ.out; omega)
            have elt : decide ((0 : Int) < (T.size : Int)) = false := by have := HZ.out; simp [this]
            go_wp2
            go_ret2
            exact ⟨by rw [HN.out.1, HN.out.2]; rfl, rfl⟩
          · have e0 : ((T.size : Int) == 0) = false := beq_eq_false_iff_ne.2 (by omega)
            have ha := HAll.out hda hz
            have cc := digits_c T w hT hda
            have hV2 : V = (if natOf (B T) ≤ 9223372036854775807 then (natOf (B T) : Int) else 0) := by
              rw [HV.out, ha]; simp; split <;> rfl
            have hO2 : ok = decide (natOf (B T) ≤ 9223372036854775807) := by
              rw [HO.out, ha]; simp; split <;> simp_all
            rw [← hV2, ← hO2] at cc
            have CC := Lib.hid cc
            clear cc hV2 hO2 ha hda
            go_wp2_with (go_at_call 22; refine CC.out.mono ?_; rintro e w' ⟨rfl, rfl⟩)
            go_ret2
            exact ⟨rfl, rfl⟩
    · have hpos : (0 : Int) < T.size := by omega
      go_enter Tryd.func11, Tryd.ntmps11
      go_wp2
      go_loop [5] (fun i => ∃ k : Nat, k ≤ T.size ∧ i = .int .i64 k ∧ Hid (∀ j (h : j < T.size), j < k → digit T[j] = true)) (fun i => T.size - (intOf i).toNat)
      case atStart => exact ⟨0, Nat.zero_le _, rfl, fun _ _ h => absurd h (by omega)⟩
      case round =>
        obtain ⟨k, hk, rfl, HD⟩ := hrel
        by_cases hlt : k < T.size
        · by_cases h1 : (T[k].toNat : Int) < 48
          · have hn := HNone.out (fun h => by have := (digit_iff _).1 (h k hlt); omega)
            have HN := Lib.hid hn; clear hn
            go_wp2
            go_ret2
            exact ⟨by rw [HN.out.1, HN.out.2]; rfl, rfl⟩
          · by_cases h2 : (57 : Int) < (T[k].toNat : Int)
            · have hn := HNone.out (fun h => by have := (digit_iff _).1 (h k hlt); omega)
              have HN := Lib.hid hn; clear hn
              go_wp2
              go_ret2
              exact ⟨by rw [HN.out.1, HN.out.2]; rfl, rfl⟩
            · have hdk : digit T[k] = true := (digit_iff _).2 (by omega)
              have HDk := Lib.hid hdk; clear hdk
              go_wp2
              go_round
              case rel =>
                refine ⟨k + 1, by omega, by go_num, fun j h hj => ?_⟩
                rcases Nat.lt_or_ge j k with h3 | h3
                · exact HD.out j h h3
                · obtain rfl : j = k := by omega
                  exact HDk.out
              case measure => simp [intOf]; omega
        · have hda : ∀ j (h : j < T.size), digit T[j] = true := fun j h => HD.out j h (by omega)
          by_cases hz : T.size = 0
          · exfalso; omega
          · have e0 : ((T.size : Int) == 0) = false := beq_eq_false_iff_ne.2 (by omega)
            have ha := HAll.out hda hz
            have cc := digits_c T w hT hda
            have hV2 : V = (if natOf (B T) ≤ 9223372036854775807 then (natOf (B T) : Int) else 0) := by
              rw [HV.out, ha]; simp; split <;> rfl
            have hO2 : ok = decide (natOf (B T) ≤ 9223372036854775807) := by
              rw [HO.out, ha]; simp; split <;> simp_all
            rw [← hV2, ← hO2] at cc
            have CC := Lib.hid cc
            clear cc hV2 hO2 ha hda
            go_wp2_with (go_at_call 22; refine CC.out.mono ?_; rintro e w' ⟨rfl, rfl⟩)
            go_ret2
            exact ⟨rfl, rfl⟩
end Go.Proofs.YtmkajangkibgeaaDoor.Ar
