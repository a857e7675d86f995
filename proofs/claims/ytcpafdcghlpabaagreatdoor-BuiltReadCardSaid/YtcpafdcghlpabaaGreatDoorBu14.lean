/-
The walks of env's find, put, copied and Set. (Written by gen_bu14.py.)
-/
import Derived.Test.YtcpafdcghlpabaaGreatDoorBu13
import Derived.Test.YtcpafdcghlpabaaGreatDoorBu11
import Derived.Deep.RegionHeld3
set_option linter.unusedVariables false
set_option linter.unusedSimpArgs false
namespace Go.Proofs.YtcpafdcghlpabaaGreatDoor.Bu
open Go.RowKit Go.Shelf Go.Proofs.YtcpafdcghlpabaaGreatDoor.Ar

set_option maxHeartbeats 400000 in
theorem bound_c (N V : ByteArray) (w : World) : Calls Tryz.prog 52 #[.agg #[.string N, .string V]] w fun e w' => e = .returned (.string N) ∧ Below w.heap.size w w' := by
  go_enter Tryz.func52, Tryz.ntmps52
  go_wp2
  go_ret
  exact ⟨rfl, (Below.refl _ _).alloc (Nat.le_refl _) _⟩

set_option maxHeartbeats 800000 in
theorem find1_c (N V s : Str) (bx : Nat) (w : World) (hc : w.cell? ⟨bx, 0, none⟩ = some (.func (.func 52) #[] #[])) (hbx : bx < w.heap.size) :
    Calls Tryz.prog 90 #[.agg #[.string (st N), .string (st V)], .string (st s), .pointer (some ⟨bx, 0, none⟩)] w fun e w' => e = .returned (.int .i64 (cmpZ N s)) ∧ Below w.heap.size w w' := by
  have hcm := compare_c N s
  generalize cmpZ N s = z at *
  generalize st N = NN at *
  generalize st V = VV at *
  generalize st s = S at *
  have HC := Lib.hid hcm; clear hcm
  go_enter Tryz.func90, Tryz.ntmps90
  go_wp2_with (first
    | (go_at_call 52; refine (bound_c _ _ _).mono ?_; rintro e w1 ⟨rfl, hb1⟩; have HB1 := Lib.hid ((below_alloc1 w _).trans (hb1.mono (size_alloc_le _ _))); clear hb1)
    | (go_at_call 91; refine (HC.out _).mono ?_; rintro e w2 ⟨rfl, rfl⟩))
  go_ret
  exact ⟨rfl, HB1.out⟩

set_option maxHeartbeats 800000 in
set_option maxRecDepth 100000 in
theorem find_c (bs : List Bd) (s : Str) (A : Option Addr) (n c : Nat) (w0 w : World) (hB : IsB w0 A bs) (hn : bs.length = n) (hb : Below w0.heap.size w0 w) (hbig : n ≤ 100000) :
    Calls Tryz.prog 51 #[.slice A n c, .string (st s), .func (.func 52) #[] #[]] w fun e w' => e = .returned (.tuple #[.int .i64 (findI bs s), .bool (findB bs s)]) ∧ Below w.heap.size w w' := by
  have hbs := bsfB bs s A n c 90 #[.pointer (some ⟨w.heap.size, 0, none⟩)] (w.alloc (.cells #[.func (.func 52) #[] #[]] 102)) (w.alloc (.cells #[.func (.func 52) #[] #[]] 102)) (fun _ _ => rfl) ((hB.keep hb).keep (below_alloc1 w _)) hn (Below.refl _ _) (fun N V w1 hb1 => find1_c N V s w.heap.size w1 ((hb1.cell (p := ⟨_, _, none⟩) (by simp)).trans (by rw [blk_cell (blk_new w _)]; rfl)) (by have := hb1.size; simp at this; omega)) hbig
  have HBS := Lib.hid hbs
  clear hbs hB hn hb
  generalize findB bs s = rb at *
  generalize findI bs s = ri at *
  generalize st s = S at *
  go_enter Tryz.func51, Tryz.ntmps51
  go_wp2_with (go_at_call 89; refine HBS.out.mono ?_; rintro e w1 ⟨rfl, hb1⟩; have HB1 := Lib.hid ((below_alloc1 w _).trans (hb1.mono (size_alloc_le _ _))); clear hb1)
  go_ret2
  exact ⟨rfl, HB1.out⟩

/-- One pair more. -/
def InsB (T : TypeId) (base : Nat) (v0 : Value) (bs : List Bd) (n : Nat) (w : World) (e : Ending) (w' : World) : Prop := ∃ v, e = .returned v ∧ w'.ownsRow base T 2 v n (flatB bs) ∧ w.grownBy w' v0.ownBlock

set_option maxHeartbeats 1600000 in
set_option maxRecDepth 100000 in
theorem insert_a (bs : List Bd) (N V : Str) (base gx : Nat) (w : World) (hown : w.ownsRow base 45 2 (.slice none 0 0) 0 (flatB bs)) (hbase : base ≤ w.heap.size) (h1 : w.cell? ⟨gx, 0, none⟩ = some (.string (st N))) (h2 : w.cell? ⟨gx, 1, none⟩ = some (.string (st V))) :
    Calls Tryz.prog 120 #[.slice none 0 0, .int .i64 0, .slice (some ⟨gx, 0, none⟩) 1 1] w (InsB 45 base (.slice none 0 0) (bs ++ [⟨N, V⟩]) (0 + 1) w) := by
  have hflat : flatB (bs ++ [⟨N, V⟩]) = flatB bs ++ [.string (st N), .string (st V)] := by rw [flatB_append]; rfl
  have hsrc : ∀ j u, ([.string (st N), .string (st V)] : List Value)[j]? = some u → w.cell? ((⟨gx, 0, none⟩ : Addr).add j) = some u := by
    intro j u hu
    match j, hu with
    | 0, hu => simp at hu; subst hu; rw [add_addr]; exact h1
    | 1, hu => simp at hu; subst hu; rw [add_addr]; exact h2
  have hone : ∀ u ∈ ([.string (st N), .string (st V)] : List Value), u.oneCell' = true := by intro u hu; simp at hu; rcases hu with rfl | rfl <;> rfl
  have hmax : 0 + 1 ≤ maxLen := by decide
  have hby : (0 + 1) * 32 ≤ 140737488355328 := by omega
  obtain ⟨i0, hi, hz0, hz1, hz2⟩ := info_parts cloneB_info
  have HW := Lib.hid hown; clear hown
  have HF := Lib.hid hflat; have HS := Lib.hid hsrc; have HO := Lib.hid hone
  clear hflat hsrc hone h1 h2
  go_enter Tryz.func120, Tryz.ntmps120
  go_wp2_with (at_builtin; refine wpList_append_own _ rfl _ _ 26 rfl base 45 i0 (.agg #[.string ⟨#[]⟩, .string ⟨#[]⟩]) 2 32 Tryz.underlying26 hi hz0 hz1 hz2 rfl (by decide) _ 0 (flatB bs) rfl HW.out ⟨gx, 0, none⟩ 1 1 [.string (st N), .string (st V)] rfl rfl HS.out HO.out hmax hby hbase ?_; intro v' w3 hown hgrow _; have HO3 := Lib.hid hown; have HG3 := Lib.hid hgrow; clear hown hgrow)
  all_goals
    go_ret
    exact ⟨v', rfl, by rw [HF.out]; exact HO3.out, HG3.out⟩

set_option maxHeartbeats 1600000 in
set_option maxRecDepth 100000 in
theorem insert_b (bs : List Bd) (N V : Str) (base n gx : Nat) (w : World) (g c : Nat) (hown : w.ownsRow base 45 2 (.slice (some ⟨g, 0, none⟩) n c) n (flatB bs)) (hc : n ≤ c) (hcm : c ≤ 9223372036854775807) (hbase : base ≤ w.heap.size) (h1 : w.cell? ⟨gx, 0, none⟩ = some (.string (st N))) (h2 : w.cell? ⟨gx, 1, none⟩ = some (.string (st V))) (hbig : n ≤ 100000) :
    Calls Tryz.prog 120 #[.slice (some ⟨g, 0, none⟩) n c, .int .i64 n, .slice (some ⟨gx, 0, none⟩) 1 1] w (InsB 45 base (.slice (some ⟨g, 0, none⟩) n c) (bs ++ [⟨N, V⟩]) (n + 1) w) := by
  have hflat : flatB (bs ++ [⟨N, V⟩]) = flatB bs ++ [.string (st N), .string (st V)] := by rw [flatB_append]; rfl
  have hsrc : ∀ j u, ([.string (st N), .string (st V)] : List Value)[j]? = some u → w.cell? ((⟨gx, 0, none⟩ : Addr).add j) = some u := by
    intro j u hu
    match j, hu with
    | 0, hu => simp at hu; subst hu; rw [add_addr]; exact h1
    | 1, hu => simp at hu; subst hu; rw [add_addr]; exact h2
  have hone : ∀ u ∈ ([.string (st N), .string (st V)] : List Value), u.oneCell' = true := by intro u hu; simp at hu; rcases hu with rfl | rfl <;> rfl
  have hmax : n + 1 ≤ maxLen := by unfold maxLen; omega
  have hby : (n + 1) * 32 ≤ 140737488355328 := by omega
  obtain ⟨i0, hi, hz0, hz1, hz2⟩ := info_parts cloneB_info
  have HW := Lib.hid hown; clear hown
  have HF := Lib.hid hflat; have HS := Lib.hid hsrc; have HO := Lib.hid hone
  clear hflat hsrc hone h1 h2
  go_enter Tryz.func120, Tryz.ntmps120
  go_wp2_with (at_builtin; refine wpList_append_own _ rfl _ _ 26 rfl base 45 i0 (.agg #[.string ⟨#[]⟩, .string ⟨#[]⟩]) 2 32 Tryz.underlying26 hi hz0 hz1 hz2 rfl (by decide) _ n (flatB bs) rfl HW.out ⟨gx, 0, none⟩ 1 1 [.string (st N), .string (st V)] rfl rfl HS.out HO.out hmax hby hbase ?_; intro v' w3 hown hgrow _; have HO3 := Lib.hid hown; have HG3 := Lib.hid hgrow; clear hown hgrow)
  all_goals
    go_ret
    exact ⟨v', rfl, by rw [HF.out]; exact HO3.out, HG3.out⟩

theorem insert_any (bs : List Bd) (N V : Str) (base n gx : Nat) (v : Value) (w : World) (hown : w.ownsRow base 45 2 v n (flatB bs)) (hbase : base ≤ w.heap.size) (h1 : w.cell? ⟨gx, 0, none⟩ = some (.string (st N))) (h2 : w.cell? ⟨gx, 1, none⟩ = some (.string (st V))) (hbig : n ≤ 100000) :
    Calls Tryz.prog 120 #[v, .int .i64 n, .slice (some ⟨gx, 0, none⟩) 1 1] w (InsB 45 base v (bs ++ [⟨N, V⟩]) (n + 1) w) := by
  rcases hown.2 with ⟨rfl, rfl⟩ | ⟨g, cap, cur, rfl, hb, hg, hc, hm, hsz, ht⟩
  · exact insert_a bs N V base gx w hown hbase h1 h2
  · exact insert_b bs N V base n gx w g cap hown hc (by unfold maxLen at hm; omega) hbase h1 h2 hbig

/-- What put leaves. -/
def PutB (bs : List Bd) (w : World) (e : Ending) (w' : World) : Prop := ∃ A' c', e = .returned (.slice A' bs.length c') ∧ bs.length ≤ c' ∧ IsB w' A' bs ∧ High w.heap.size A' ∧ Below w.heap.size w w'

set_option maxHeartbeats 3200000 in
set_option maxRecDepth 100000 in
theorem put_end (bs : List Bd) (N V : Str) (A : Option Addr) (n c : Nat) (w0 w : World) (hB : IsB w0 A bs) (hn : bs.length = n) (hb : Below w0.heap.size w0 w) (hbig : n ≤ 1000) (hf : findB bs N = false) (hi : findI bs N = n) :
    Calls Tryz.prog 86 #[.slice A n c, .agg #[.string (st N), .string (st V)], (.func (.func 52) #[] #[])] w (PutB (bs ++ [⟨N, V⟩]) w) := by
  have hfind := fun w1 h => find_c bs N A n c w0 w1 hB hn h (by omega)
  rw [hf, hi] at hfind
  have hcl := fun w1 h => cloneB bs A n c w0 w1 hB hn h (by omega)
  have hin := fun v base gx w1 ho hbs h1 h2 => insert_any bs N V base n gx v w1 ho hbs h1 h2 (by omega)
  have HF := Lib.hid hfind; have HC := Lib.hid hcl; have HI := Lib.hid hin; have H0 := Lib.hid hb; have HN := Lib.hid hn
  clear hfind hcl hin hb hB hf hi hn
  generalize hNN : st N = NN at *
  generalize hVV : st V = VV at *
  clear hNN hVV
  go_enter Tryz.func86, Tryz.ntmps86
  go_wp2_with (first
    | (go_at_call 52; refine (bound_c _ _ _).mono ?_; rintro e w1 ⟨rfl, hb1⟩; have HB1 := Lib.hid ((below_alloc1 w _).trans (hb1.mono (size_alloc_le _ _))); have k0 : w1.cell? ⟨w.heap.size, 0, none⟩ = some (.string NN) := (hb1.cell (p := ⟨_, _, none⟩) (by simp)).trans (by rw [blk_cell (blk_new w _)]; rfl); have k1 : w1.cell? ⟨w.heap.size, 1, none⟩ = some (.string VV) := (hb1.cell (p := ⟨_, _, none⟩) (by simp)).trans (by rw [blk_cell (blk_new w _)]; rfl); have hs1 : w.heap.size < w1.heap.size := (by have := hb1.size; simp at this; omega); clear hb1)
    | (go_at_call 51; refine (HF.out _ (H0.out.trans (HB1.out.mono H0.out.size))).mono ?_; rintro e w2 ⟨rfl, hb2⟩; have HB2 := Lib.hid (HB1.out.trans (hb2.mono HB1.out.size)); have k02 := (hb2.cell (p := ⟨w.heap.size, 0, none⟩) hs1).trans k0; have k12 := (hb2.cell (p := ⟨w.heap.size, 1, none⟩) hs1).trans k1; have hs2 : w.heap.size < w2.heap.size := Nat.lt_of_lt_of_le hs1 hb2.size; clear k0 k1 hb2)
    | (go_at_call 87; refine (HC.out _ (H0.out.trans (HB2.out.mono H0.out.size))).mono ?_; rintro e w3 ⟨v, rfl, ho3, hb3⟩; have HB3 := Lib.hid (HB2.out.trans (hb3.mono HB2.out.size)); have k03 := (hb3.cell (p := ⟨w.heap.size, 0, none⟩) hs2).trans k02; have k13 := (hb3.cell (p := ⟨w.heap.size, 1, none⟩) hs2).trans k12; have HO3 := Lib.hid ho3; have hs3 := Lib.hid hb3.size; clear k02 k12 hb3 ho3)
    | (go_at_call 120; refine (HI.out _ w2.heap.size w3.heap.size _ (HO3.out.alloc _) (Nat.le_trans hs3.out (size_alloc_le _ _)) (by rw [blk_cell (blk_new w3 _)]; rfl) (by rw [blk_cell (blk_new w3 _)]; rfl)).mono ?_; rintro e w4 ⟨v4, rfl, ho4, hg4⟩; have HO4 := Lib.hid ho4; have HG4 := Lib.hid hg4; clear ho4 hg4))
  go_ret
  obtain ⟨A', c', rfl, hc', hl', hB', hh'⟩ := own_isB HO4.out
  refine ⟨A', c', by rw [hl']; rfl, by rw [hl']; exact hc', hB', fun a ha => Nat.le_trans HB2.out.size (hh' a ha), ?_⟩
  exact (HB3.out.alloc HB3.out.size _).grown HG4.out (HB3.out.alloc HB3.out.size _).size (fun k hk => Nat.le_trans HB2.out.size (HO3.out.lt k hk).1)

theorem cell_lt' {W : World} {a : Addr} {v : Value} (h : W.cell? a = some v) : a.block < W.heap.size := by
  unfold World.cell? at h
  rcases Nat.lt_or_ge a.block W.heap.size with h' | h'
  · exact h'
  · simp [Array.getElem?_eq_none h'] at h
theorem own_some {w : World} {base : Nat} {e : TypeId} {k n : Nat} {v : Value} {xs : List Value} (h : w.ownsRow base e k v n xs) (hn : 0 < n) : ∃ g cap, v = .slice (some ⟨g, 0, none⟩) n cap ∧ base ≤ g ∧ n ≤ cap := by
  rcases h.2 with ⟨_, rfl⟩ | ⟨g, cap, cur, rfl, hb, hg, hc, _⟩
  · omega
  · exact ⟨g, cap, rfl, hb, hc⟩
theorem own_cellsB {w : World} {base g cap n i : Nat} {e : TypeId} {bs : List Bd} (h : w.ownsRow base e 2 (.slice (some ⟨g, 0, none⟩) n cap) n (flatB bs)) (hi : i < bs.length) :
    w.cell? ⟨g, i * 2, none⟩ = some (.string (st bs[i].name)) ∧ w.cell? ⟨g, i * 2 + 1, none⟩ = some (.string (st bs[i].value)) ∧ (∀ j, w.frozen? ⟨g, j, none⟩ = false) ∧ g < w.heap.size ∧ IsB w (some ⟨g, 0, none⟩) bs := by
  have c1 := h.cells (g := g) rfl (i * 2) _ (flatB_at bs i hi).1
  have c2 := h.cells (g := g) rfl (i * 2 + 1) _ (flatB_at bs i hi).2
  rw [add_addr, Nat.zero_add] at c1 c2
  obtain ⟨A', c', e1, _, _, h4, _⟩ := own_isB h
  injection e1 with e1 e2 e3
  subst e1
  refine ⟨c1, c2, ?_, cell_lt' c1, h4⟩
  rcases h.2 with ⟨e0, _⟩ | ⟨g', cap', cur, e0, _, hg, _⟩
  · cases e0
  · injection e0 with e0
    injection e0 with e0
    injection e0 with e0
    subst e0
    exact fun j => blk_frozen hg j
theorem cs_other {w : World} {g i j : Nat} {v : Value} (h : i ≠ j) : (w.setCell ⟨g, i, none⟩ v).cell? ⟨g, j, none⟩ = w.cell? ⟨g, j, none⟩ := by
  rw [World.cell?_setCell_other]
  intro e
  injection e with _ e
  exact h e
theorem cs_same {w : World} {g i : Nat} {v u : Value} (h : w.cell? ⟨g, i, none⟩ = some u) : (w.setCell ⟨g, i, none⟩ v).cell? ⟨g, i, none⟩ = some v := by
  rw [World.cell?_setCell_same' _ _ _ (by rw [h]; rfl)]
theorem set_isB {w : World} {g i : Nat} {bs : List Bd} {N V : Str} (h : IsB w (some ⟨g, 0, none⟩) bs) (hi : i < bs.length) :
    IsB ((w.setCell ⟨g, i * 2, none⟩ (.string (st N))).setCell ⟨g, i * 2 + 1, none⟩ (.string (st V))) (some ⟨g, 0, none⟩) (bs.set i ⟨N, V⟩) :=
  ⟨fun j hj => by
    have hj' : j < bs.length := by simpa using hj
    obtain ⟨r1, r2⟩ := h.read (Below.refl _ _) j hj'
    have hlt := cell_lt' r1
    rw [Nat.zero_add] at r1 r2
    refine ⟨g, 0, rfl, by simp; exact hlt, ?_, ?_⟩
    · rw [Nat.zero_add, cs_other (by omega)]
      by_cases e : j = i
      · subst e
        rw [cs_same r1]
        simp
      · rw [cs_other (by omega), r1]
        simp [List.getElem_set, Ne.symm e]
    · rw [Nat.zero_add]
      by_cases e : j = i
      · subst e
        have r2' : (w.setCell ⟨g, j * 2, none⟩ (.string (st N))).cell? ⟨g, j * 2 + 1, none⟩ = some (.string (st bs[j].value)) := by
          rw [cs_other (by omega)]; exact r2
        rw [cs_same r2']
        simp
      · rw [cs_other (by omega), cs_other (by omega), r2]
        simp [List.getElem_set, Ne.symm e]⟩
set_option maxHeartbeats 3200000 in
set_option maxRecDepth 100000 in
theorem put_found (bs : List Bd) (N V : Str) (A : Option Addr) (n c : Nat) (w0 w : World) (hB : IsB w0 A bs) (hn : bs.length = n) (hb : Below w0.heap.size w0 w) (hbig : n ≤ 1000) (i : Nat) (hin : i < n) (hf : findB bs N = true) (hi : findI bs N = i) :
    Calls Tryz.prog 86 #[.slice A n c, .agg #[.string (st N), .string (st V)], (.func (.func 52) #[] #[])] w (PutB (bs.set i ⟨N, V⟩) w) := by
  have hfind := fun w1 h => find_c bs N A n c w0 w1 hB hn h (by omega)
  rw [hf, hi] at hfind
  have hcl := fun w1 h => cloneB bs A n c w0 w1 hB hn h (by omega)
  have HF := Lib.hid hfind; have HC := Lib.hid hcl; have H0 := Lib.hid hb; have HN := Lib.hid hn
  clear hfind hcl hb hB hf hi hn
  generalize hNN : st N = NN at *
  generalize hVV : st V = VV at *
  have HNN := Lib.hid hNN; have HVV := Lib.hid hVV
  clear hNN hVV
  go_enter Tryz.func86, Tryz.ntmps86
  go_wp2_with (first
    | (go_at_call 52; refine (bound_c _ _ _).mono ?_; rintro e w1 ⟨rfl, hb1⟩; have HB1 := Lib.hid ((below_alloc1 w _).trans (hb1.mono (size_alloc_le _ _))); have k0 : w1.cell? ⟨w.heap.size, 0, none⟩ = some (.string NN) := (hb1.cell (p := ⟨_, _, none⟩) (by simp)).trans (by rw [blk_cell (blk_new w _)]; rfl); have k1 : w1.cell? ⟨w.heap.size, 1, none⟩ = some (.string VV) := (hb1.cell (p := ⟨_, _, none⟩) (by simp)).trans (by rw [blk_cell (blk_new w _)]; rfl); have hs1 : w.heap.size < w1.heap.size := (by have := hb1.size; simp at this; omega); clear hb1)
    | (go_at_call 51; refine (HF.out _ (H0.out.trans (HB1.out.mono H0.out.size))).mono ?_; rintro e w2 ⟨rfl, hb2⟩; have HB2 := Lib.hid (HB1.out.trans (hb2.mono HB1.out.size)); have k02 := (hb2.cell (p := ⟨w.heap.size, 0, none⟩) hs1).trans k0; have k12 := (hb2.cell (p := ⟨w.heap.size, 1, none⟩) hs1).trans k1; have hs2 : w.heap.size < w2.heap.size := Nat.lt_of_lt_of_le hs1 hb2.size; clear k0 k1 hb2)
    | (go_at_call 87; refine (HC.out _ (H0.out.trans (HB2.out.mono H0.out.size))).mono ?_; rintro e w3 ⟨v, rfl, ho3, hb3⟩; have HB3 := Lib.hid (HB2.out.trans (hb3.mono HB2.out.size)); have k03 := (hb3.cell (p := ⟨w.heap.size, 0, none⟩) hs2).trans k02; have k13 := (hb3.cell (p := ⟨w.heap.size, 1, none⟩) hs2).trans k12; have HO3 := Lib.hid ho3; obtain ⟨g, cap, rfl, hg3, hcap⟩ := own_some ho3 (by omega); obtain ⟨q1, q2, qf, _, hB3⟩ := own_cellsB (i := i) ho3 (by rw [HN.out]; exact hin); have HB3b := Lib.hid hB3; have HC3 := Lib.hid hcap; clear hB3 hcap; clear k02 k12 hb3 ho3))
  go_ret
  refine ⟨some ⟨g, 0, none⟩, cap, by rw [List.length_set, HN.out]; rfl, by rw [List.length_set, HN.out]; exact HC3.out, ?_, fun a ha => by injection ha with ha; subst ha; exact Nat.le_trans HB2.out.size hg3, ?_⟩
  · rw [← HNN.out, ← HVV.out]; exact set_isB HB3b.out (by rw [HN.out]; exact hin)
  · exact (HB3.out.setCell (Nat.le_trans HB2.out.size hg3) _).setCell (Nat.le_trans HB2.out.size hg3) _
end Go.Proofs.YtcpafdcghlpabaaGreatDoor.Bu
