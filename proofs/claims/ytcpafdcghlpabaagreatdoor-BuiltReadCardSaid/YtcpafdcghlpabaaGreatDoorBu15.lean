/-
The walks of env.copied and of env.Set, where a machine has neither arguments nor functions.
-/
import Derived.Test.YtcpafdcghlpabaaGreatDoorBu14
set_option linter.unusedVariables false
set_option linter.unusedSimpArgs false
namespace Go.Proofs.YtcpafdcghlpabaaGreatDoor.Bu
open Go.RowKit Go.Shelf Go.Proofs.YtcpafdcghlpabaaGreatDoor.Ar

set_option maxHeartbeats 800000 in
theorem cloneF_nil (w : World) : Calls Tryz.prog 88 #[.slice none 0 0] w fun e w' => e = .returned (.slice none 0 0) ∧ w' = w := by
  have q := fun w1 => Lib.run_eql_slice_nil w1 _ _ none 0 0 0 0 Tryz.underlying27
  go_enter Tryz.func88, Tryz.ntmps88
  go_wp2_with fail
  go_ret
  exact ⟨rfl, rfl⟩

/-- An Env of pairs alone. -/
def EnvB (bs : List Bd) (w : World) (e : Ending) (w' : World) : Prop := ∃ A' c', e = .returned (.agg #[.slice A' bs.length c', .slice none 0 0, .slice none 0 0]) ∧ bs.length ≤ c' ∧ IsB w' A' bs ∧ High w.heap.size A' ∧ Below w.heap.size w w'

theorem cs_far {w : World} {g h i j : Nat} {v : Value} (hn : g ≠ h) : (w.setCell ⟨g, i, none⟩ v).cell? ⟨h, j, none⟩ = w.cell? ⟨h, j, none⟩ := by
  rw [World.cell?_setCell_other]
  intro e
  injection e with e _
  exact hn e
theorem cs3 (w : World) (g j : Nat) (x y z : Value) : (((w.setCell ⟨g + 1, 0, none⟩ x).setCell ⟨g + 1, 1, none⟩ y).setCell ⟨g + 1, 2, none⟩ z).cell? ⟨g, j, none⟩ = w.cell? ⟨g, j, none⟩ := by
  rw [cs_far (by omega), cs_far (by omega), cs_far (by omega)]
theorem three_cells {w : World} {g : Nat} {a b c : Value} {T : TypeId} (h : w.heap[g]? = some (.cells #[a, b, c] T (0, 0))) : w.cell? ⟨g, 0, none⟩ = some a ∧ w.cell? ⟨g, 1, none⟩ = some b ∧ w.cell? ⟨g, 2, none⟩ = some c ∧ w.frozen? ⟨g, 0, none⟩ = false ∧ w.frozen? ⟨g, 1, none⟩ = false ∧ w.frozen? ⟨g, 2, none⟩ = false :=
  ⟨(blk_cell h 0).trans rfl, (blk_cell h 1).trans rfl, (blk_cell h 2).trans rfl, blk_frozen h 0, blk_frozen h 1, blk_frozen h 2⟩

set_option maxHeartbeats 3200000 in
set_option maxRecDepth 100000 in
theorem copied_c (bs : List Bd) (A : Option Addr) (n c : Nat) (w0 w : World) (hB : IsB w0 A bs) (hn : bs.length = n) (hb : Below w0.heap.size w0 w) (hbig : n ≤ 1000) :
    Calls Tryz.prog 50 #[.agg #[.slice A n c, .slice none 0 0, .slice none 0 0]] w (EnvB bs w) := by
  have hcl := fun w1 h => cloneB bs A n c w0 w1 hB hn h (by omega)
  have hA2 := fun X Y => hb.trans ((((Below.refl w.heap.size w).alloc (Nat.le_refl _) X).alloc (by simp) Y).mono hb.size)
  have HC := Lib.hid hcl; have H0 := Lib.hid hb; have HA2 := Lib.hid hA2; have HN := Lib.hid hn
  clear hcl hb hB hA2 hn
  go_enter Tryz.func50, Tryz.ntmps50
  go_wp2_with fail
  have hE : ((w.alloc (.cells #[.slice A n c, .slice none 0 0, .slice none 0 0] 29)).alloc (.cells #[.slice none 0 0, .slice none 0 0, .slice none 0 0] 29)).heap[w.heap.size]? = _ := blk2 w _ _
  have hR : ((w.alloc (.cells #[.slice A n c, .slice none 0 0, .slice none 0 0] 29)).alloc (.cells #[.slice none 0 0, .slice none 0 0, .slice none 0 0] 29)).heap[w.heap.size + 1]? = _ := blk3 w _ _
  generalize hW : (w.alloc (.cells #[.slice A n c, .slice none 0 0, .slice none 0 0] 29)).alloc (.cells #[.slice none 0 0, .slice none 0 0, .slice none 0 0] 29) = W at *
  have hBW : Below w.heap.size w W := by rw [← hW]; exact ((Below.refl w.heap.size w).alloc (Nat.le_refl _) _).alloc (by simp) _
  have hB0 : Below w0.heap.size w0 W := by rw [← hW]; exact HA2.out _ _
  have hsz : W.heap.size = w.heap.size + 2 := by rw [← hW]; simp
  clear hW HA2
  obtain ⟨c0, c1, c2, _⟩ := three_cells hE
  have HE := Lib.hid hE; have HR := Lib.hid hR; have HBW := Lib.hid hBW; have HB0 := Lib.hid hB0; have HSZ := Lib.hid hsz
  clear hE hR hBW hB0 hsz
  go_region_held3 (fun w' => w'.cell? ⟨w.heap.size, 0, none⟩ = some (.slice A n c) ∧ w'.cell? ⟨w.heap.size, 1, none⟩ = some (.slice none 0 0) ∧ w'.cell? ⟨w.heap.size, 2, none⟩ = some (.slice none 0 0))
    (first | exact ⟨k0, k1, k2⟩ | exact ⟨by exact c0, by exact c1, by exact c2⟩ | exact ⟨(cs3 _ _ _ _ _ _).trans k0, (cs3 _ _ _ _ _ _).trans k1, (cs3 _ _ _ _ _ _).trans k2⟩)
    (first
      | (go_at_call 87; refine (HC.out _ HB0.out.drew).mono ?_; rintro e w1 ⟨v, rfl, ho, hb1⟩; obtain ⟨k0, k1, k2, _⟩ := three_cells ((hb1.block w.heap.size (by have := HSZ.out; simp; omega)).trans HE.out); obtain ⟨q0, q1, q2, g0, g1, g2⟩ := three_cells ((hb1.block (w.heap.size + 1) (by have := HSZ.out; simp; omega)).trans HR.out); obtain ⟨A', c', rfl, hc', hl', hB', hh'⟩ := own_isB ho; have HC1 := Lib.hid hc'; have HBB := Lib.hid hB'; have HH := Lib.hid hh'; have HR1 := Lib.hid ((hb1.block (w.heap.size + 1) (by have := HSZ.out; simp; omega)).trans HR.out); have HB1 := Lib.hid hb1; clear ho hb1 hc' hl' hB' hh')
      | (go_at_call 46; refine (Tryz.slices_Clone_string_nil 0 0 _).mono ?_; rintro e w2 ⟨rfl, rfl⟩)
      | (go_at_call 88; refine (cloneF_nil _).mono ?_; rintro e w2 ⟨rfl, rfl⟩))
  go_wp2
  have hR2 : ((((w2.setCell ⟨w.heap.size + 1, 0, none⟩ (.slice A' n c')).setCell ⟨w.heap.size + 1, 1, none⟩ (.slice none 0 0)).setCell ⟨w.heap.size + 1, 2, none⟩ (.slice none 0 0))).heap[w.heap.size + 1]? = some (.cells #[.slice A' n c', .slice none 0 0, .slice none 0 0] 29 (0, 0)) :=
    (blk_set (blk_set (blk_set HR1.out 0 _) 1 _) 2 _).trans rfl
  refine bodyPost_ret (v := .agg #[.slice A' n c', .slice none 0 0, .slice none 0 0]) (results_cell_row Tryz.results50 _ _ (w.heap.size + 1) 29 _ (0, 0) _ rfl hR2 Tryz.underlying29 rfl (by kernel_rfl)) rfl ⟨A', c', by rw [HN.out], by rw [HN.out]; exact HC1.out, ?_, ?_, ?_⟩
  · exact HBB.out.far HH.out (by simp) (fun k hk => by
      have hk' : w.heap.size + 2 ≤ k := by have := HSZ.out; simp at hk; omega
      rw [Below.heap_setCell _ _ _ _ (by simp; omega), Below.heap_setCell _ _ _ _ (by simp; omega), Below.heap_setCell _ _ _ _ (by simp; omega)])
  · exact fun a ha => by have := HH.out a ha; have h2 := HSZ.out; simp at this; omega
  · exact (((HBW.out.drew.trans (HB1.out.mono (show w.heap.size ≤ W.heap.size by have := HSZ.out; omega))).setCell (by simp) _).setCell (by simp) _).setCell (by simp) _

theorem below_alloc2 (w : World) (X Y : Obj) : Below w.heap.size w ((w.alloc X).alloc Y) := ((Below.refl w.heap.size w).alloc (Nat.le_refl _) _).alloc (by simp) _
theorem size2_le (w : World) (X Y : Obj) : w.heap.size ≤ ((w.alloc X).alloc Y).heap.size := by simp; omega
theorem three_set {w : World} {g : Nat} {a b c x y z : Value} {T : TypeId} (h : w.heap[g]? = some (.cells #[a, b, c] T (0, 0))) : (((w.setCell ⟨g, 0, none⟩ x).setCell ⟨g, 1, none⟩ y).setCell ⟨g, 2, none⟩ z).heap[g]? = some (.cells #[x, y, z] T (0, 0)) :=
  (blk_set (blk_set (blk_set h 0 _) 1 _) 2 _).trans rfl
theorem three_other {w : World} {g k : Nat} {x y z : Value} (hk : k ≠ g) : (((w.setCell ⟨g, 0, none⟩ x).setCell ⟨g, 1, none⟩ y).setCell ⟨g, 2, none⟩ z).heap[k]? = w.heap[k]? := by
  rw [Below.heap_setCell _ _ _ _ hk, Below.heap_setCell _ _ _ _ hk, Below.heap_setCell _ _ _ _ hk]
/-- What put does to these pairs. -/
def PutOk (bs bs' : List Bd) (N V : Str) : Prop := ∀ (w : World) A c, IsB w A bs → Calls Tryz.prog 86 #[.slice A bs.length c, .agg #[.string (st N), .string (st V)], .func (.func 52) #[] #[]] w (PutB bs' w)

set_option maxHeartbeats 3200000 in
set_option maxRecDepth 100000 in
theorem set_env_c (bs bs' : List Bd) (N V : Str) (A : Option Addr) (n c : Nat) (w0 w : World) (hB : IsB w0 A bs) (hn : bs.length = n) (hb : Below w0.heap.size w0 w) (hbig : n ≤ 1000) (hput : PutOk bs bs' N V) :
    Calls Tryz.prog 49 #[.agg #[.slice A n c, .slice none 0 0, .slice none 0 0], .string (st N), .string (st V)] w (EnvB bs' w) := by
  have hcp := fun w1 h => copied_c bs A n c w0 w1 hB hn h hbig
  have hA2 := fun X Y => hb.trans ((((Below.refl w.heap.size w).alloc (Nat.le_refl _) X).alloc (by simp) Y).mono hb.size)
  have HC := Lib.hid hcp; have HA2 := Lib.hid hA2; have HP := Lib.hid fun w A c h => hput w A c h
  clear hcp hb hB hA2 hn hput
  generalize st N = NN at *
  generalize st V = VV at *
  go_enter Tryz.func49, Tryz.ntmps49
  go_wp2_with (first
    | (go_at_call 50; refine (HC.out _ (HA2.out _ _)).mono ?_; rintro e w1 ⟨A1, c1, rfl, hc1, hB1, hh1, hb1⟩; have HE1 := Lib.hid (own_blk hb1 (blk2 w _ _)); have HR1 := Lib.hid (own_blk hb1 (blk3 w _ _)); obtain ⟨k0, k1, k2, f0, f1, f2⟩ := three_cells HE1.out; have HB2 : Hid (IsB (((w1.setCell ⟨w.heap.size, 0, none⟩ (.slice A1 bs.length c1)).setCell ⟨w.heap.size, 1, none⟩ (.slice none 0 0)).setCell ⟨w.heap.size, 2, none⟩ (.slice none 0 0)) A1 bs) := hB1.far hh1 (by simp) (fun k hk => three_other (by simp at hk; omega)); have HX1 := Lib.hid ((below_alloc2 w _ _).trans (hb1.mono (size2_le w _ _))); have hz1 : Hid (w.heap.size + 2 ≤ w1.heap.size) := (by have := hb1.size; rw [alloc2_size] at this; exact this); clear hb1 hB1 hh1 hc1)
    | (go_at_call 86; refine (HP.out _ _ _ HB2.out).mono ?_; rintro e w2 ⟨A2, c2, rfl, hc2, hB2, hh2, hb2⟩; have HE2 := Lib.hid (own_blk hb2 (three_set HE1.out)); have HR2 := Lib.hid (own_blk hb2 ((three_other (by omega)).trans HR1.out)); clear k0 k1 k2 f0 f1 f2; obtain ⟨k0, k1, k2, f0, f1, f2⟩ := three_cells HE2.out; obtain ⟨r0, r1, r2, e0, e1, e2⟩ := three_cells HR2.out; have HX2 := Lib.hid ((((HX1.out.setCell (Nat.le_refl _) _).setCell (Nat.le_refl _) _).setCell (Nat.le_refl _) _).trans (hb2.mono (by have := HX1.out.size; simp; exact this))); have HBB2 := Lib.hid hB2; have HH2 := Lib.hid hh2; have HC2 := Lib.hid hc2; clear hb2 hB2 hh2 hc2))
  have hR3 := three_set (x := .slice A2 bs'.length c2) (y := .slice none 0 0) (z := .slice none 0 0) ((Below.heap_setCell w2 ⟨w.heap.size, 0, none⟩ (.slice A2 bs'.length c2) (w.heap.size + 1) (by simp)).trans HR2.out)
  refine bodyPost_ret (v := .agg #[.slice A2 bs'.length c2, .slice none 0 0, .slice none 0 0]) (results_cell_row Tryz.results49 _ _ (w.heap.size + 1) 29 _ (0, 0) _ rfl hR3 Tryz.underlying29 rfl (by kernel_rfl)) rfl ⟨A2, c2, rfl, HC2.out, ?_, ?_, ?_⟩
  · have hz := HX1.out.size
    refine HBB2.out.far (base := w.heap.size + 2) (fun a ha => Nat.le_trans ?_ (HH2.out a ha)) (by simp) (fun k hk => ?_)
    · simp; exact hz1.out
    · rw [three_other (by omega), Below.heap_setCell _ _ _ _ (by simp; omega)]
  · exact fun a ha => Nat.le_trans (by simp; exact HX1.out.size) (HH2.out a ha)
  · exact (((HX2.out.setCell (Nat.le_refl _) _).setCell (by simp) _).setCell (by simp) _).setCell (by simp) _
end Go.Proofs.YtcpafdcghlpabaaGreatDoor.Bu
