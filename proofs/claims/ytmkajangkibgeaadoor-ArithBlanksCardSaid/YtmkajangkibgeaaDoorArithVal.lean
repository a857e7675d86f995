/-
The walks of slices.IndexFunc over bindings, and of arith's value.
-/
import Derived.Test.YtmkajangkibgeaaDoorArithTwo2
set_option linter.unusedVariables false
set_option linter.unusedSimpArgs false
namespace Go.Proofs.YtmkajangkibgeaaDoor.Ar
open Go.RowKit Go.Shelf

/-- A slice that lies in old memory reads as these bindings, in every world that keeps what was there. -/
structure IsV (w0 : World) (A : Option Addr) (vars : List Bind) : Prop where
  len : vars.length ≤ 20
  cell : ∀ j (h : j < vars.length), ∃ b o, A = some ⟨b, o, none⟩ ∧ b < w0.heap.size ∧ w0.cell? ⟨b, o + j * 2, none⟩ = some (.string (st vars[j].name)) ∧ w0.cell? ⟨b, o + j * 2 + 1, none⟩ = some (.string (st vars[j].value))
  short : ∀ j (h : j < vars.length), vars[j].value.length ≤ 140737488351232
theorem IsV.at_ {w0 w : World} {A : Option Addr} {vars : List Bind} (h : IsV w0 A vars) (hb : Below w0.heap.size w0 w) (j : Nat) (hj : j < vars.length) : ∃ b o, A = some ⟨b, o, none⟩ ∧ b < w0.heap.size ∧ w.cell? ⟨b, o + j * 2, none⟩ = some (.string (st vars[j].name)) ∧ w.cell? ⟨b, o + j * 2 + 1, none⟩ = some (.string (st vars[j].value)) := by
  obtain ⟨b, o, e, hlt, h1, h2⟩ := h.cell j hj
  exact ⟨b, o, e, hlt, (hb.cell (p := ⟨b, _, none⟩) hlt).trans h1, (hb.cell (p := ⟨b, _, none⟩) hlt).trans h2⟩

set_option maxHeartbeats 400000 in
theorem closure_c (N V M : ByteArray) (bx : Nat) (w : World) (hc : w.cell? ⟨bx, 0, none⟩ = some (.string M)) (hbx : bx < w.heap.size) :
    Calls Tryd.prog 44 #[.agg #[.string N, .string V], .pointer (some ⟨bx, 0, none⟩)] w fun e w' => e = .returned (.bool (B N == B M)) ∧ Below w.heap.size w w' := by
  have hc2 : (w.alloc (.cells #[.string N, .string V] 35)).cell? ⟨bx, 0, none⟩ = some (.string M) := (((Below.refl _ _).alloc (Nat.le_refl _) _).cell (p := ⟨bx, 0, none⟩) hbx).trans hc
  go_enter Tryd.func44, Tryd.ntmps44
  go_wp2
  go_ret
  exact ⟨ret_bool (by rw [toList_B, toList_B]), (Below.refl _ _).alloc (Nat.le_refl _) _⟩

def idxZ (name : Str) (vars : List Bind) : Int := match vars.findIdx? (fun b => b.name == name) with | some k => k | none => -1
theorem idx_hit {name : Str} {vars : List Bind} {k : Nat} (hk : k < vars.length) (hno : ∀ j (h : j < vars.length), j < k → (vars[j].name == name) = false) (hy : (vars[k].name == name) = true) : idxZ name vars = k := by
  unfold idxZ
  have : vars.findIdx? (fun b => b.name == name) = some k := by
    rw [List.findIdx?_eq_some_iff_getElem]
    exact ⟨hk, hy, fun j hj => by simp [hno j (by omega) hj]⟩
  rw [this]
theorem idx_miss {name : Str} {vars : List Bind} (hno : ∀ j (h : j < vars.length), (vars[j].name == name) = false) : idxZ name vars = -1 := by
  unfold idxZ
  have : vars.findIdx? (fun b => b.name == name) = none := by
    rw [List.findIdx?_eq_none_iff]
    intro b hb
    obtain ⟨j, hj, rfl⟩ := List.getElem_of_mem hb
    exact hno j hj
  rw [this]
theorem value_hit {name : Str} {vars : List Bind} {k : Nat} (hk : k < vars.length) (hno : ∀ j (h : j < vars.length), j < k → (vars[j].name == name) = false) (hy : (vars[k].name == name) = true) : valueZ name vars = if vars[k].value = [] then some 0 else numZ vars[k].value := by
  unfold valueZ
  have : vars.find? (fun b => b.name == name) = some vars[k] := by
    rw [List.find?_eq_some_iff_getElem]
    exact ⟨hy, k, hk, rfl, fun j hj => by simp [hno j (by omega) hj]⟩
  rw [this]
theorem value_miss {name : Str} {vars : List Bind} (hno : ∀ j (h : j < vars.length), (vars[j].name == name) = false) : valueZ name vars = some 0 := by
  unfold valueZ
  have : vars.find? (fun b => b.name == name) = none := by
    rw [List.find?_eq_none]
    intro b hb
    obtain ⟨j, hj, rfl⟩ := List.getElem_of_mem hb
    simp [hno j hj]
  rw [this]

set_option maxHeartbeats 1000000 in
set_option maxRecDepth 100000 in
theorem index_c (name : Str) (vars : List Bind) (A : Option Addr) (c bx : Nat) (w0 w : World) (hv : IsV w0 A vars) (hb : Below w0.heap.size w0 w) (hc : w.cell? ⟨bx, 0, none⟩ = some (.string (st name))) (hbx : bx < w.heap.size) :
    Calls Tryd.prog 43 #[.slice A vars.length c, .func (.func 44) #[] #[.pointer (some ⟨bx, 0, none⟩)]] w fun e w' => e = .returned (.int .i64 (idxZ name vars)) ∧ Below w.heap.size w w' := by
  have hl := hv.len
  have HV := Lib.hid hv; clear hv
  have HB := Lib.hid hb; clear hb
  have HC := Lib.hid hc; clear hc
  obtain ⟨n, hn⟩ : ∃ n, n = vars.length := ⟨_, rfl⟩
  rw [← hn] at hl ⊢
  have HN := Lib.hid hn; clear hn
  go_enter Tryd.func43, Tryd.ntmps43
  go_wp2
  go_loopw [8] (fun i wr => ∃ k : Nat, k ≤ n ∧ i = .int .i64 k ∧ Hid (Below w.heap.size w wr) ∧ Hid (∀ j (h : j < vars.length), j < k → (vars[j].name == name) = false)) (fun i _ => n - (intOf i).toNat)
  case atStart => exact ⟨0, Nat.zero_le _, rfl, Below.refl _ _, fun _ _ h => absurd h (by omega)⟩
  case round =>
    obtain ⟨k, hk, rfl, HW, HNo⟩ := hrel
    by_cases hlt : k < n
    · have hkv : k < vars.length := by have := HN.out; omega
      obtain ⟨b, o, rfl, hblt, c1, c2⟩ := HV.out.at_ (HB.out.trans (HW.out.mono HB.out.size)) k hkv
      obtain ⟨nm, hnm⟩ : ∃ nm, nm = vars[k].name := ⟨_, rfl⟩
      obtain ⟨vl, hvl⟩ : ∃ vl, vl = vars[k].value := ⟨_, rfl⟩
      rw [← hnm] at c1
      rw [← hvl] at c2
      clear hvl
      have HNm := Lib.hid hnm; clear hnm
      have hcc : wr.cell? ⟨bx, 0, none⟩ = some (.string (st name)) := (HW.out.cell (p := ⟨bx, 0, none⟩) hbx).trans HC.out
      have ccl := closure_c (st nm) (st vl) (st name) bx wr hcc (Nat.lt_of_lt_of_le hbx HW.out.size)
      rw [B_st, B_st] at ccl
      clear hcc
      cases hq : (nm == name)
      all_goals
        rw [hq] at ccl
        have HQ := Lib.hid hq; clear hq
        have CL := Lib.hid ccl; clear ccl
        go_wp2_with (go_at_call 44; refine CL.out.mono ?_; rintro e w2 ⟨rfl, hb2⟩; have HB2 := Lib.hid hb2; clear hb2)
        first
        | (go_roundw
           case rel =>
             refine ⟨k + 1, by omega, by go_num, HW.out.trans (HB2.out.mono HW.out.size), fun j h hj => ?_⟩
             rcases Nat.lt_or_ge j k with h1 | h1
             · exact HNo.out j h h1
             · obtain rfl : j = k := by omega
               rw [← HNm.out]; exact HQ.out
           case measure => simp [intOf]; omega)
        | (go_ret
           exact ⟨by rw [idx_hit hkv HNo.out (by rw [← HNm.out]; exact HQ.out)]; rfl, HW.out.trans (HB2.out.mono HW.out.size)⟩)
    · go_wp2_with fail
      go_ret
      exact ⟨by rw [idx_miss fun j hj => HNo.out j hj (by have := HN.out; omega)]; rfl, HW.out⟩

theorem st_empty_true {S : Str} (h : S = []) : (st S).toList.isEmpty = true := by rw [opS, h]; rfl
theorem st_empty_false {S : Str} (h : S ≠ []) : (st S).toList.isEmpty = false := by
  rw [opS]
  cases S with
  | nil => exact absurd rfl h
  | cons _ _ => rfl

theorem idx_cases (name : Str) (vars : List Bind) : (idxZ name vars = -1 ∧ valueZ name vars = some 0) ∨ (∃ k, ∃ h : k < vars.length, idxZ name vars = k ∧ valueZ name vars = if vars[k].value = [] then some 0 else numZ vars[k].value) := by
  cases h : vars.findIdx? (fun b => b.name == name) with
  | none =>
    rw [List.findIdx?_eq_none_iff] at h
    exact .inl ⟨idx_miss fun j hj => h _ (List.getElem_mem hj), value_miss fun j hj => h _ (List.getElem_mem hj)⟩
  | some k =>
    rw [List.findIdx?_eq_some_iff_getElem] at h
    obtain ⟨hk, hy, hno⟩ := h
    have hno' : ∀ j (h : j < vars.length), j < k → (vars[j].name == name) = false := fun j hj hjk => by have := hno j hjk; simpa using this
    exact .inr ⟨k, hk, idx_hit hk hno' hy, value_hit hk hno' hy⟩

set_option maxHeartbeats 1600000 in
set_option maxRecDepth 100000 in
theorem value_c (name : Str) (vars : List Bind) (A : Option Addr) (c : Nat) (w0 w : World) (hG : Gl w0) (hv : IsV w0 A vars) (hb : Below w0.heap.size w0 w) :
    Calls Tryd.prog 27 #[.string (st name), .slice A vars.length c] w fun e w' => e = .returned (.tuple #[.int .i64 ((valueZ name vars).getD 0), .bool (valueZ name vars).isSome]) ∧ Below w.heap.size w w' := by
  have hl := hv.len
  have hbA : Below w0.heap.size w0 (w.alloc (.cells #[.string (st name)] 9)) := hb.alloc hb.size _
  have cix := index_c name vars A c w.heap.size w0 (w.alloc (.cells #[.string (st name)] 9)) hv hbA (by rw [blk_cell (blk_new w _)]; rfl) (by simp)
  have HV := Lib.hid hv; clear hv
  have HB := Lib.hid hb; clear hb
  have hbw : Below w.heap.size w (w.alloc (.cells #[.string (st name)] 9)) := (Below.refl _ _).alloc (Nat.le_refl _) _
  have HBW := Lib.hid hbw; clear hbw
  have HBA := Lib.hid hbA; clear hbA
  rcases idx_cases name vars with ⟨e1, e2⟩ | ⟨k, hk, e1, e2⟩
  · rw [e1] at cix
    rw [e2]
    clear e1 e2
    have CX := Lib.hid cix; clear cix
    generalize vars.length = n at *
    go_enter Tryd.func27, Tryd.ntmps27
    go_wp2_with (go_at_call 43; refine CX.out.mono ?_; rintro e w2 ⟨rfl, hb2⟩; have HB2 := Lib.hid hb2; clear hb2)
    go_ret2
    exact ⟨rfl, HBW.out.trans (HB2.out.mono (by simp))⟩
  · rw [e1] at cix
    rw [e2]
    clear e1 e2
    obtain ⟨n, hn⟩ : ∃ n, n = vars.length := ⟨_, rfl⟩
    have hkn : k < n := by omega
    rw [← hn] at cix hl ⊢
    have HN := Lib.hid hn; clear hn
    have CX := Lib.hid cix; clear cix
    have hsh := HV.out.short k hk
    obtain ⟨b, o, rfl, hblt, c1, c2⟩ := HV.out.at_ (Below.refl _ _) k hk
    have HHK := Lib.hid hk
    have cnum := fun w h => num_c vars[k].value w0 w hG h hsh
    clear c1
    generalize vars[k].value = v at *
    have C2 := Lib.hid c2; clear c2
    have CN := Lib.hid cnum; clear cnum
    by_cases hv0 : v = []
    · have hem := st_empty_true hv0
      rw [if_pos hv0]
      have H0 := Lib.hid hv0; clear hv0
      obtain ⟨S, hS⟩ : ∃ S, S = st v := ⟨_, rfl⟩
      rw [← hS] at hem C2
      clear hS
      go_enter Tryd.func27, Tryd.ntmps27
      go_wp2_with (go_at_call 43; refine CX.out.mono ?_; rintro e w2 ⟨rfl, hb2⟩; have hcell : w2.cell? ⟨b, o + k * 2 + 1, none⟩ = some (.string S) := ((HBA.out.trans (hb2.mono HBA.out.size)).cell (p := ⟨b, o + k * 2 + 1, none⟩) hblt).trans C2.out; have HB2 := Lib.hid hb2; clear hb2)
      go_ret2
      exact ⟨rfl, HBW.out.trans (HB2.out.mono (by simp))⟩
    · have hem := st_empty_false hv0
      rw [if_neg hv0]
      have H0 := Lib.hid hv0; clear hv0
      obtain ⟨S, hS⟩ : ∃ S, S = st v := ⟨_, rfl⟩
      rw [← hS] at hem C2 CN
      clear hS
      go_enter Tryd.func27, Tryd.ntmps27
      go_wp2_with (first
        | (go_at_call 43; refine CX.out.mono ?_; rintro e w2 ⟨rfl, hb2⟩; have hbc := HBA.out.trans (hb2.mono HBA.out.size); have hcell : w2.cell? ⟨b, o + k * 2 + 1, none⟩ = some (.string S) := (hbc.cell (p := ⟨b, o + k * 2 + 1, none⟩) hblt).trans C2.out; have HB2 := Lib.hid hb2; have HBC := Lib.hid hbc; clear hb2 hbc)
        | (go_at_call 10; refine (CN.out _ HBC.out).mono ?_; rintro e w3 ⟨⟨vv, rfl, hvv⟩, hb3⟩; have HV3 := Lib.hid hvv; have HB3 := Lib.hid hb3; clear hvv hb3))
      go_ret2
      have h2 := HBW.out.trans (HB2.out.mono (by simp))
      exact ⟨by rw [← HV3.out]; rfl, h2.trans (HB3.out.mono h2.size)⟩
end Go.Proofs.YtmkajangkibgeaaDoor.Ar
