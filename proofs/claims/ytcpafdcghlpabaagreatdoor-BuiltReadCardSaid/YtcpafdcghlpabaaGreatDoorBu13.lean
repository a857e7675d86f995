/-
The walks of slices.Clone over bindings, files and functions, of env.find and of file.find. (Written by gen_bu13.py.)
-/
import Derived.Test.YtcpafdcghlpabaaGreatDoorBu12
set_option linter.unusedVariables false
set_option linter.unusedSimpArgs false
namespace Go.Proofs.YtcpafdcghlpabaaGreatDoor.Bu
open Go.RowKit Go.Shelf Go.Proofs.YtcpafdcghlpabaaGreatDoor.Ar

/-- The cells of pairs. -/
def flatB : List Bd → List Value
  | [] => []
  | x :: r => .string (st x.name) :: .string (st x.value) :: flatB r
theorem flatB_len : ∀ bs : List Bd, (flatB bs).length = bs.length * 2
  | [] => rfl
  | x :: r => by simp [flatB, flatB_len r]; omega
theorem flatB_at : ∀ (bs : List Bd) (j : Nat) (h : j < bs.length), (flatB bs)[j * 2]? = some (.string (st bs[j].name)) ∧ (flatB bs)[j * 2 + 1]? = some (.string (st bs[j].value))
  | x :: r, 0, _ => ⟨rfl, rfl⟩
  | x :: r, j + 1, h => by
    have := flatB_at r j (by simpa using h)
    rw [show (j + 1) * 2 = j * 2 + 1 + 1 by omega, show j * 2 + 1 + 1 + 1 = (j * 2 + 1) + 1 + 1 by omega]
    simpa [flatB] using this
theorem flatB_one : ∀ (bs : List Bd), ∀ u ∈ flatB bs, u.oneCell' = true
  | [], u, h => by cases h
  | x :: r, u, h => by
    simp only [flatB, List.mem_cons] at h
    rcases h with rfl | rfl | h
    · rfl
    · rfl
    · exact flatB_one r u h
theorem flatB_append : ∀ (a b : List Bd), flatB (a ++ b) = flatB a ++ flatB b
  | [], b => rfl
  | x :: r, b => by simp [flatB, flatB_append r b]
/-- The cells of pairs, as append asks for them. -/
theorem IsB.src {w0 w : World} {A : Addr} {bs : List Bd} (h : IsB w0 (some A) bs) (hb : Below w0.heap.size w0 w) : ∀ j u, (flatB bs)[j]? = some u → w.cell? (A.add j) = some u := by
  intro j u hu
  have hj : j < bs.length * 2 := by
    rw [← flatB_len]
    exact (List.getElem?_eq_some_iff.1 hu).1
  have hk : j / 2 < bs.length := by omega
  obtain ⟨b, o, e, hlt, _⟩ := h.cell (j / 2) hk
  obtain rfl : A = ⟨b, o, none⟩ := by simpa using e
  obtain ⟨r1, r2⟩ := h.read hb (j / 2) hk
  obtain ⟨f1, f2⟩ := flatB_at bs (j / 2) hk
  rw [add_addr]
  rcases Nat.mod_two_eq_zero_or_one j with hm | hm
  · have e2 : j / 2 * 2 = j := by omega
    rw [e2] at r1 f1
    rw [r1, ← f1, hu]
  · have e2 : j / 2 * 2 + 1 = j := by omega
    rw [e2] at f2
    rw [show o + j / 2 * 2 + 1 = o + j by omega] at r2
    rw [r2, ← f2, hu]
theorem own_isB {w : World} {base : Nat} {e : TypeId} {n : Nat} {v : Value} {bs : List Bd} (h : w.ownsRow base e 2 v n (flatB bs)) :
    ∃ A c, v = .slice A n c ∧ n ≤ c ∧ bs.length = n ∧ IsB w A bs ∧ High base A := by
  have hl : bs.length = n := by have := h.1; rw [flatB_len] at this; omega
  rcases h.2 with ⟨rfl, rfl⟩ | ⟨g, cap, cur, rfl, hb, hg, hc, hm, hsz, ht⟩
  · obtain rfl : bs = [] := List.eq_nil_of_length_eq_zero hl
    exact ⟨none, 0, rfl, Nat.le_refl _, rfl, IsB.nil _ _, fun _ h => by cases h⟩
  · refine ⟨_, cap, rfl, hc, hl, ⟨fun j hj => ⟨g, 0, rfl, blk_lt hg, ?_, ?_⟩⟩, fun a ha => by injection ha with ha; subst ha; exact hb⟩
    · have := h.cells (g := g) rfl (j * 2) _ (flatB_at bs j hj).1
      rw [add_addr] at this
      exact this
    · have := h.cells (g := g) rfl (j * 2 + 1) _ (flatB_at bs j hj).2
      rw [add_addr] at this
      rw [Nat.zero_add]
      rw [Nat.zero_add] at this
      exact this
theorem IsB.far {w w' : World} {A : Option Addr} {bs : List Bd} {base : Nat} (h : IsB w A bs) (hi : High base A) (hs : w.heap.size ≤ w'.heap.size) (hk : ∀ k, base ≤ k → w'.heap[k]? = w.heap[k]?) : IsB w' A bs :=
  ⟨fun j hj => by
    obtain ⟨b, o, e, hlt, h1, h2⟩ := h.cell j hj
    refine ⟨b, o, e, Nat.lt_of_lt_of_le hlt hs, ?_, ?_⟩
    · rw [World.cell?_of_block (w := w) (hk b (hi _ e))]; exact h1
    · rw [World.cell?_of_block (w := w) (hk b (hi _ e))]; exact h2⟩
/-- These pairs do not lie in block g. -/
def OffB (g : Nat) (A : Option Addr) (bs : List Bd) : Prop := bs ≠ [] → ∀ a, A = some a → a.block ≠ g
theorem IsB.off {w w' : World} {g : Nat} {A : Option Addr} {bs : List Bd} (h : IsB w A bs) (ho : OffB g A bs) (hs : w.heap.size ≤ w'.heap.size) (hk : ∀ k, k < w.heap.size → k ≠ g → w'.heap[k]? = w.heap[k]?) : IsB w' A bs :=
  ⟨fun j hj => by
    obtain ⟨b, o, e, hlt, h1, h2⟩ := h.cell j hj
    have hne : bs ≠ [] := by intro e0; subst e0; simp at hj
    refine ⟨b, o, e, Nat.lt_of_lt_of_le hlt hs, ?_, ?_⟩
    · rw [World.cell?_of_block (w := w) (hk b hlt (ho hne _ e))]; exact h1
    · rw [World.cell?_of_block (w := w) (hk b hlt (ho hne _ e))]; exact h2⟩
/-- A copy of pairs in new memory. -/
def CopyB (T : TypeId) (bs : List Bd) (n : Nat) (w : World) (e : Ending) (w' : World) : Prop := ∃ v, e = .returned v ∧ w'.ownsRow w.heap.size T 2 v n (flatB bs) ∧ Below w.heap.size w w'
theorem grown_base {base : Nat} {W w1 w3 : World} {o : Obj} {n c : Nat} (h : Below base W w1) (hs : base ≤ w1.heap.size) (hg : (w1.alloc o).grownBy w3 (Value.slice (some ⟨w1.heap.size, 0, none⟩) n c).ownBlock) : Below base W w3 :=
  (h.alloc hs o).grown hg (Nat.le_trans hs (size_alloc_le _ _)) (fun k hk => by
    have hk' : w1.heap.size = k := by injection hk
    omega)

theorem cloneB_info : (Tryz.prog.info? 45).map (fun i => (i.zero, i.size, i.bytes)) = some (some (.agg #[.string ⟨#[]⟩, .string ⟨#[]⟩]), 2, 32) := by kernel_rfl
set_option maxHeartbeats 1600000 in
set_option maxRecDepth 100000 in
/-- A copy of pairs. -/
theorem cloneB (bs : List Bd) (A : Option Addr) (n c : Nat) (w0 w : World) (hB : IsB w0 A bs) (hn : bs.length = n) (hb : Below w0.heap.size w0 w) (hbig : n ≤ 100000) :
    Calls Tryz.prog 87 #[.slice A n c] w (CopyB 45 bs n w) := by
  have q := fun w1 => Lib.run_eql_slice_nil w1 _ _ A n c 0 0 Tryz.underlying26
  rcases A with _ | a
  · have hne : bs = [] := by
      rcases bs with _ | ⟨x, r⟩
      · rfl
      · obtain ⟨b, o, e, _⟩ := hB.cell 0 (by simp)
        cases e
    subst hne
    obtain rfl : n = 0 := by simpa using hn.symm
    simp only [Option.isNone_none] at q
    go_enter Tryz.func87, Tryz.ntmps87
    go_wp2_with fail
    go_ret
    exact ⟨_, rfl, World.ownsRow_nil _ _ _ _, Below.refl _ _⟩
  · simp only [Option.isNone_some] at q
    have hlen : (flatB bs).length = n * 2 := by rw [flatB_len, hn]
    have hsrc := fun w1 h => hB.src (w := w1) h
    have hone := flatB_one bs
    have hmax : 0 + n ≤ maxLen := by unfold maxLen; omega
    have hby : (0 + n) * 32 ≤ 140737488355328 := by omega
    obtain ⟨i0, hi, hz0, hz1, hz2⟩ := info_parts cloneB_info
    have HL := Lib.hid hlen; have HS := Lib.hid hsrc; have HO := Lib.hid hone; have H0 := Lib.hid hb
    clear hlen hsrc hone hb hB hn
    go_enter Tryz.func87, Tryz.ntmps87
    go_wp2_with (at_builtin; refine wpList_append_own _ rfl _ _ 26 rfl w.heap.size 45 i0 (.agg #[.string ⟨#[]⟩, .string ⟨#[]⟩]) 2 32 Tryz.underlying26 hi hz0 hz1 hz2 rfl (by decide) _ 0 [] rfl ⟨rfl, .inr ⟨w.heap.size, 0, #[], rfl, Nat.le_refl _, blk_new w _, Nat.le_refl _, Nat.zero_le _, rfl, rfl⟩⟩ a n c (flatB bs) rfl HL.out (HS.out _ (H0.out.alloc H0.out.size _)) HO.out hmax hby (size_alloc_le _ _) ?_; intro v' w3 hown hgrow _; have HB3 := Lib.hid (grown_base (Below.refl w.heap.size w) (Nat.le_refl _) hgrow); rw [Nat.zero_add, List.nil_append] at hown; have HO3 := Lib.hid hown; clear hown hgrow)
    go_ret
    exact ⟨v', rfl, HO3.out, HB3.out⟩
end Go.Proofs.YtcpafdcghlpabaaGreatDoor.Bu
