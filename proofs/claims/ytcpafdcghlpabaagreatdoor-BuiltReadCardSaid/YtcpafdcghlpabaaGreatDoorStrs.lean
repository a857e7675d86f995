/-
An argument that is a slice of texts.
-/
import Derived.Test.YtcpafdcghlpabaaGreatDoorRowS
import Derived.SliceStrings
set_option linter.unusedVariables false
set_option linter.unusedSimpArgs false
namespace Go.Proofs.YtcpafdcghlpabaaGreatDoor.Row
open Go.ChangeShapes Go.WideShapes Go.ChangeAt Go.RowKit Go.Shelf Go.Lib Go.Deep

theorem cell_lt {W : World} {a : Addr} {v : Value} (h : W.cell? a = some v) : a.block < W.heap.size := by
  unfold World.cell? at h
  rcases Nat.lt_or_ge a.block W.heap.size with h' | h'
  · exact h'
  · simp [Array.getElem?_eq_none h'] at h
theorem weights_all {H : Type} {P : Program} {e : TypeId} {d : DataW H} {n : Nat} (hn : n ∈ d.weights P e) : ∀ {l : List (DataW H)}, d ∈ l → n ∈ DataW.weightsAll P e l
  | x :: r, h => by
    simp only [DataW.weightsAll, List.mem_append]
    rcases List.mem_cons.1 h with rfl | h
    · exact .inl hn
    · exact .inr (weights_all hn h)
theorem add_eq {b o : Nat} (n : Nat) : (⟨b, o, none⟩ : Addr).add n = ⟨b, o + n, none⟩ := by
  unfold Addr.add; split
  · next h => rw [h]; rfl
  · rfl
theorem cells_str : Tryz.prog.cellsOf 9 = 1 := by kernel_rfl

set_option maxRecDepth 100000 in
theorem open_strs {H : Type} {enc : TypeId × Value → H} {W : World} {base : Nat} {v : Value} {d : DataW H} {p : List MemPlace} (hok : Value.okWide Tryz.prog W .any base 22 v)
    (h : DataW.Trod enc Tryz.prog W 0 (fun _ => true) true 22 v d p) (hw : ∀ n, n ∈ d.weights Tryz.prog 22 → n ≤ reachBytes) :
    ∃ (A : Option Addr) (xs : List (List UInt8)) (c : Nat), v = .slice A xs.length c ∧ xs.length ≤ c ∧ c ≤ maxLen ∧
      (∀ j (h : j < xs.length), ∃ b o, A = some ⟨b, o, none⟩ ∧ b < W.heap.size ∧ W.cell? ⟨b, o + j, none⟩ = some (.string ⟨xs[j].toArray⟩)) ∧ ∀ j (h : j < xs.length), xs[j].length ≤ 140737488351232 := by
  obtain ⟨fuel, hf⟩ := h
  obtain ⟨a0, l0, c0, rfl⟩ := okWide_slice Tryz.underlying22 hok
  rcases open_strings Tryz.underlying22 Tryz.underlying9 cells_str hf with ⟨hc, hx⟩ | ⟨a, len, cap, ss, hc, _, hl, hm, hss, hx, hall, _⟩
  · simp only [Value.cells, List.cons.injEq, Value.slice.injEq, and_true] at hc
    obtain ⟨rfl, rfl, rfl⟩ := hc
    exact ⟨none, [], 0, rfl, Nat.le_refl _, Nat.zero_le _, fun j h => absurd h (by simp), fun j h => absurd h (by simp)⟩
  · simp only [Value.cells, List.cons.injEq, Value.slice.injEq, and_true] at hc
    obtain ⟨rfl, rfl, rfl⟩ := hc
    simp only [if_true] at hss
    simp only [Prod.mk.injEq] at hx
    obtain ⟨rfl, rfl⟩ := hx
    have hlen : ((ss.take l0).map fun s => s.data.toList).length = l0 := by simp; omega
    refine ⟨some a, (ss.take l0).map fun s => s.data.toList, c0, by rw [hlen], by rw [hlen]; exact hl, hm, fun j hj => ?_, fun j hj => ?_⟩
    · rw [hlen] at hj
      have h0 := hall 0 (by omega)
      obtain ⟨b, o, sp⟩ := a
      have hsp : sp = none := by simpa [Addr.add] using World.cell?_spot h0
      subst hsp
      have c1 := hall j (by omega)
      rw [add_eq] at c1
      refine ⟨b, o, rfl, cell_lt (a := ⟨b, _, none⟩) c1, ?_⟩
      rw [c1]
      simp [List.getD_eq_getElem?_getD, show j < ss.length by omega]
    · rw [hlen] at hj
      have hj' : j < ss.length := by omega
      have hmem : (DataW.lit (.string ss[j].data.toList) : DataW H) ∈ (strs (ss.take l0) : List (DataW H)) := by
        unfold strs
        exact List.mem_map.2 ⟨ss[j], by rw [List.mem_take_iff_getElem]; exact ⟨j, by omega, rfl⟩, rfl⟩
      have hn : ss[j].size ∈ (DataW.lit (.string ss[j].data.toList) : DataW H).weights Tryz.prog 9 := by simp [DataW.weights]
      have := hw ss[j].size (by
        simp only [DataW.weights, Tryz.underlying22, List.mem_cons, List.mem_append]
        exact .inr (.inl (weights_all hn hmem)))
      simp only [List.getElem_map, List.getElem_take]
      unfold reachBytes at this
      show ss[j].size ≤ _
      omega
theorem strs_nil {H : Type} {enc : TypeId × Value → H} {W : World} {n c : Nat} {d : DataW H} {p : List MemPlace}
    (h : DataW.Trod enc Tryz.prog W 0 (fun _ => true) true 22 (.slice none n c) d p) : n = 0 ∧ c = 0 := by
  obtain ⟨fuel, hf⟩ := h
  rcases open_strings Tryz.underlying22 Tryz.underlying9 cells_str hf with ⟨hc, _⟩ | ⟨a, len, cap, ss, hc, _⟩
  · simp only [Value.cells, List.cons.injEq, Value.slice.injEq, and_true, true_and] at hc
    exact hc
  · simp [Value.cells] at hc
end Go.Proofs.YtcpafdcghlpabaaGreatDoor.Row
