/-
Variables read from a slice of the caller's.
-/
import Derived.Test.YtmkajangkibgeaaDoorRowB
import Derived.Test.YtmkajangkibgeaaDoorArithVal
set_option linter.unusedVariables false
set_option linter.unusedSimpArgs false
namespace Go.Proofs.YtmkajangkibgeaaDoor.Ar
open Go.ChangeShapes Go.WideShapes Go.ChangeAt Go.RowKit Go.Shelf Go.Lib Go.Deep

theorem cells_str : Tryd.prog.cellsOf 9 = 1 := by kernel_rfl
theorem cells_bind : Tryd.prog.cellsOf 35 = 2 := by kernel_rfl

theorem cell_lt {W : World} {a : Addr} {v : Value} (h : W.cell? a = some v) : a.block < W.heap.size := by
  unfold World.cell? at h
  rcases Nat.lt_or_ge a.block W.heap.size with h' | h'
  · exact h'
  · simp [Array.getElem?_eq_none h'] at h

def strOf : Value → Str
  | .string s => B s
  | _ => []
theorem weights_all {H : Type} {P : Program} {e : TypeId} {d : DataW H} {n : Nat} (hn : n ∈ d.weights P e) : ∀ {l : List (DataW H)}, d ∈ l → n ∈ DataW.weightsAll P e l
  | x :: r, h => by
    simp only [DataW.weightsAll, List.mem_append]
    rcases List.mem_cons.1 h with rfl | h
    · exact .inl hn
    · exact .inr (weights_all hn h)
theorem add_eq {b o : Nat} (n : Nat) : (⟨b, o, none⟩ : Addr).add n = ⟨b, o + n, none⟩ := by
  unfold Addr.add; split
  · next h => rw [h]; rfl
  · rfl

set_option maxRecDepth 100000 in
theorem open_vars {H : Type} {enc : TypeId × Value → H} {W : World} {base : Nat} {v : Value} {d : DataW H} {p : List MemPlace} (hok : Value.okWide Tryd.prog W .any base 22 v)
    (h : DataW.Trod enc Tryd.prog W 0 (fun _ => true) true 22 v d p) (hw : ∀ n, n ∈ d.weights Tryd.prog 22 → n ≤ reachBytes) :
    ∃ A vars c, v = .slice A (List.length (α := Bind) vars) c ∧ (vars.length ≤ 20 → IsV W A vars) := by
  obtain ⟨fuel, hf⟩ := h
  obtain ⟨a0, l0, c0, rfl⟩ := okWide_slice Tryd.underlying22 hok
  rcases open_slice_pairs Tryd.underlying22 Tryd.underlying35 cells_bind rfl rfl cells_str cells_str hf with ⟨hc, hx⟩ | ⟨a, len, cap, m, k, V0, V1, D0, D1, P0, P1, hc, _, hl, hm, hmm, hx, hall⟩
  · simp only [Value.cells, List.cons.injEq, Value.slice.injEq, and_true] at hc
    obtain ⟨rfl, rfl, rfl⟩ := hc
    exact ⟨none, [], 0, rfl, fun _ => ⟨by simp, fun j h => absurd h (by simp), fun j h => absurd h (by simp)⟩⟩
  · simp only [Value.cells, List.cons.injEq, Value.slice.injEq, and_true] at hc
    obtain ⟨rfl, rfl, rfl⟩ := hc
    simp only [if_true] at hmm
    subst hmm
    simp only [Prod.mk.injEq] at hx
    obtain ⟨rfl, rfl⟩ := hx
    have s0 : ∀ i, i < l0 → ∃ s : ByteArray, V0 i = .string s ∧ D0 i = .lit (.string s.data.toList) := fun i hi => by
      obtain ⟨s, h1, h2, _⟩ := DataW.trod_string Tryd.underlying9 (hall i (by omega)).2.2.1
      simp only [List.cons.injEq, and_true] at h1
      simp only [Prod.mk.injEq] at h2
      exact ⟨s, h1, h2.1⟩
    have s1 : ∀ i, i < l0 → ∃ s : ByteArray, V1 i = .string s ∧ D1 i = .lit (.string s.data.toList) := fun i hi => by
      obtain ⟨s, h1, h2, _⟩ := DataW.trod_string Tryd.underlying9 (hall i (by omega)).2.2.2
      simp only [List.cons.injEq, and_true] at h1
      simp only [Prod.mk.injEq] at h2
      exact ⟨s, h1, h2.1⟩
    refine ⟨some a, (List.range l0).map fun i => ⟨strOf (V0 i), strOf (V1 i)⟩, m, by simp, fun h20 => ⟨h20, fun j hj => ?_, fun j hj => ?_⟩⟩
    · have hj' : j < l0 := by simpa using hj
      obtain ⟨x0, e0, _⟩ := s0 j hj'
      obtain ⟨x1, e1, _⟩ := s1 j hj'
      have h0 := (hall 0 (by omega)).1
      obtain ⟨b, o, sp⟩ := a
      have hsp : sp = none := by simpa [Addr.add] using World.cell?_spot h0
      subst hsp
      obtain ⟨c1, c2, _, _⟩ := hall j (by omega)
      rw [add_eq, e0] at c1
      rw [add_eq, e1] at c2
      refine ⟨b, o, rfl, cell_lt (a := ⟨b, _, none⟩) c1, ?_, ?_⟩
      · rw [c1]; simp [e0, strOf, st_B]
      · rw [show o + j * 2 + 1 = o + (j * 2 + 1) by omega, c2]; simp [e1, strOf, st_B]
    · have hj' : j < l0 := by simpa using hj
      obtain ⟨x1, e1, d1⟩ := s1 j hj'
      have hmem : (DataW.agg [D0 j, D1 j] : DataW H) ∈ (List.range l0).map fun i => (DataW.agg [D0 i, D1 i] : DataW H) := List.mem_map.2 ⟨j, List.mem_range.2 hj', rfl⟩
      have hn : x1.size ∈ (DataW.agg [D0 j, D1 j] : DataW H).weights Tryd.prog 35 := by
        rw [d1]
        simp [DataW.weights, DataW.weightsEach, Tryd.underlying35]
      have := hw x1.size (by
        simp only [DataW.weights, Tryd.underlying22, List.mem_cons, List.mem_append]
        exact .inr (.inl (weights_all hn hmem)))
      simp only [List.getElem_map, List.getElem_range, e1, strOf, B_len]
      unfold reachBytes at this
      omega
end Go.Proofs.YtmkajangkibgeaaDoor.Ar
