/-
The walk of the law that a test turned round is the other one.
-/
import Derived.Test.YtcpafdcghlpabaaGreatDoorBu7
set_option linter.unusedVariables false
set_option linter.unusedSimpArgs false
namespace Go.Proofs.YtcpafdcghlpabaaGreatDoor.Bu
open Go.RowKit Go.Shelf Go.Proofs.YtcpafdcghlpabaaGreatDoor.Ar

theorem infoStr : (Tryz.prog.info? 9).map (fun i => (i.zero, i.size, i.bytes)) = some (some (.string ⟨#[]⟩), 1, 16) := by kernel_rfl
/-- Texts that were gathered are arguments. -/
theorem own_isL {w : World} {base : Nat} {e : TypeId} {n : Nat} {v : Value} {ws : List Str} (h : w.ownsRow base e 1 v n (ws.map fun l => Value.string (st l))) (hs : ∀ x ∈ ws, x.length ≤ 140737488351232) :
    ∃ A c, v = .slice A n c ∧ n ≤ c ∧ ws.length = n ∧ IsL w A ws := by
  have hl : ws.length = n := by have := h.1; simpa using this
  rcases h.2 with ⟨rfl, rfl⟩ | ⟨g, cap, cur, rfl, hb, hg, hc, hm, hsz, ht⟩
  · obtain rfl : ws = [] := List.eq_nil_of_length_eq_zero hl
    exact ⟨none, 0, rfl, Nat.le_refl _, rfl, IsL.nil _ _⟩
  · refine ⟨_, cap, rfl, hc, hl, fun j hj => ⟨g, 0, rfl, blk_lt hg, ?_⟩, fun j hj => hs _ (List.getElem_mem hj)⟩
    have := h.cells (g := g) rfl j (.string (st ws[j])) (by simp [hj])
    have hadd : (⟨g, 0, none⟩ : Addr).add j = ⟨g, j, none⟩ := by unfold Addr.add; split <;> simp_all
    rw [hadd] at this
    rw [Nat.zero_add]; exact this

theorem grown_below {w w' : World} (h : Below w.heap.size w w') (row : Option Nat) : w.grownBy w' row := ⟨h.os, h.tape, h.output, h.size, fun i hi _ => h.block i hi⟩

theorem size_alloc_le (w : World) (o : Obj) : w.heap.size ≤ (w.alloc o).heap.size := by simp
theorem add_addr (b o j : Nat) : (⟨b, o, none⟩ : Addr).add j = ⟨b, o + j, none⟩ := by
  unfold Addr.add; split
  · next h => rw [h]; rfl
  · rfl
/-- The cells of arguments, as append asks for them. -/
theorem IsL.src {w0 w : World} {b o : Nat} {xs : List Str} (h : IsL w0 (some ⟨b, o, none⟩) xs) (hb : Below w0.heap.size w0 w) : ∀ j u, (xs.map fun l => Value.string (st l))[j]? = some u → w.cell? ((⟨b, o, none⟩ : Addr).add j) = some u := by
  intro j u hu
  rw [List.getElem?_map] at hu
  cases hx : xs[j]? with
  | none => rw [hx] at hu; cases hu
  | some x =>
    rw [hx] at hu
    cases hu
    obtain ⟨hj, rfl⟩ := List.getElem?_eq_some_iff.1 hx
    rw [add_addr]
    exact h.read hb j hj
theorem one_map (xs : List Str) : ∀ u ∈ xs.map (fun l => Value.string (st l)), u.oneCell' = true := by
  intro u hu
  obtain ⟨x, _, rfl⟩ := List.mem_map.1 hu
  rfl

theorem grown_from {W w1 w3 : World} {o : Obj} {n c : Nat} (h : Below W.heap.size W w1) (hg : (w1.alloc o).grownBy w3 (Value.slice (some ⟨w1.heap.size, 0, none⟩) n c).ownBlock) : Below W.heap.size W w3 :=
  (h.alloc h.size o).grown hg (h.alloc h.size o).size (fun k hk => by
    have hk' : w1.heap.size = k := by injection hk
    have := h.size
    omega)

theorem cons_map (xs : List Str) : [Value.string ⟨#[33]⟩] ++ (xs.map fun l => Value.string (st l)) = (bang :: xs).map fun l => Value.string (st l) := rfl

theorem own_bang {w : World} {base n : Nat} {e : TypeId} {v : Value} {xs : List Str} (h : w.ownsRow base e 1 v (1 + n) ([Value.string ⟨#[33]⟩] ++ (xs.map fun l => Value.string (st l)))) (hs : ∀ x ∈ bang :: xs, x.length ≤ 140737488351232) : ∃ A c, v = .slice A (1 + n) c ∧ 1 + n ≤ c ∧ IsL w A (bang :: xs) := by
  rw [cons_map] at h
  obtain ⟨A, c, h1, h2, _, h4⟩ := own_isL h hs
  exact ⟨A, c, h1, h2, h4⟩

theorem three_cases {n m : Int} (h : 0 ≤ n ∧ n ≤ 2 ∧ (n + m = 1 ∨ (n = 2 ∧ m = 2))) : (n = 0 ∧ m = 1) ∨ (n = 1 ∧ m = 0) ∨ (n = 2 ∧ m = 2) ∨ (n = 2 ∧ m = -1) := by omega

set_option maxHeartbeats 3200000 in
set_option maxRecDepth 100000 in
theorem not_c (W : World) (hG : Gb W) (xs : List Str) (A : Option Addr) (n c : Nat) (hn : xs.length = n) (hc : n ≤ c) (hc2 : n ≤ 9223372036854775807) (hL : n ≤ 20 → IsL W A xs) :
    Calls Tryz.prog 3 #[.slice A n c] W fun e w' => e = .returned (.bool true) ∧ Below W.heap.size W w' := by
  by_cases h0 : n < 1
  · obtain rfl : n = 0 := by omega
    go_enter Tryz.func3, Tryz.ntmps3
    go_wp2_with fail
    go_ret
    exact ⟨rfl, Below.refl _ _⟩
  · have d0 : decide ((n : Int) < 1) = false := by simp; omega
    by_cases h20 : 20 < n
    · have d1 : decide ((20 : Int) < (n : Int)) = true := by simp; omega
      go_enter Tryz.func3, Tryz.ntmps3
      go_wp2_with fail
      go_ret
      exact ⟨rfl, Below.refl _ _⟩
    · have d1 : decide ((20 : Int) < (n : Int)) = false := by simp; omega
      by_cases h2 : n = 2
      · subst h2
        go_enter Tryz.func3, Tryz.ntmps3
        go_wp2_with fail
        go_ret
        exact ⟨rfl, Below.refl _ _⟩
      · have d2 : ((n : Int) == 2) = false := by simp; omega
        have hL2 := hL (by omega)
        clear hL
        have hL := hL2
        clear hL2
        have hlaw := three_cases (not_law (fun _ => false) xs (by omega) (by omega))
        have hne : 0 < xs.length := by omega
        obtain ⟨b, o, rfl, hlt, hc0⟩ := hL.cell 0 hne
        clear hc0 hlt
        have t1 := test_c (fun _ => false) (.slice none 0 0) W hG (getOk_nil _) n xs (some ⟨b, o, none⟩) c W (by omega) (by omega) hL (Below.refl _ _)
        have t2 := fun (w1 : World) (hb : Below W.heap.size W w1) A' c' (hc' : (1 + n) ≤ c') (hL' : IsL w1 A' (bang :: xs)) => test_c (fun _ => false) (.slice none 0 0) w1 (hG.mono hb) (getOk_nil _) (n + 1) (bang :: xs) A' c' w1 (by simp; omega) (by simp; omega) hL' (Below.refl _ _)
        have hlen : (bang :: xs).length = 1 + n := by simp; omega
        rw [hlen] at t2
        rw [hn] at t1
        have hk := fun w1 h => known_c W w1 hG h
        have hbs : ∀ x ∈ bang :: xs, x.length ≤ 140737488351232 := by
          intro x hx
          rcases List.mem_cons.1 hx with rfl | hx
          · decide
          · obtain ⟨j, hj, rfl⟩ := List.getElem_of_mem hx
            exact hL.short j hj
        obtain ⟨i0, hi, hz0, hz1, hz2⟩ := info_parts infoStr
        generalize testZ (fun _ => false) (bang :: xs) = r2 at *
        generalize testZ (fun _ => false) xs = r1 at *
        have hmax : 1 + n ≤ maxLen := by unfold maxLen; omega
        have hby : (1 + n) * 16 ≤ 140737488355328 := by omega
        have C1 : Hid (∀ w', Below W.heap.size W w' → ∀ j u, (xs.map fun l => Value.string (st l))[j]? = some u → w'.cell? ((⟨b, o, none⟩ : Addr).add j) = some u) := fun w' h => hL.src h
        have C2 := Lib.hid (one_map xs)
        have CL : Hid ((xs.map fun l => Value.string (st l)).length = n * 1) := by show _ = _; simp [hn]
        have T1 := Lib.hid t1; have T2 := Lib.hid t2; have HK := Lib.hid hk; have HL := Lib.hid hL; have HN := Lib.hid hn; have HBS := Lib.hid hbs
        clear t1 t2 hk hG hL hne h2 hlen hn hbs
        rcases hlaw with ⟨rfl, rfl⟩ | ⟨rfl, rfl⟩ | ⟨rfl, rfl⟩ | ⟨rfl, rfl⟩
        all_goals
          go_enter Tryz.func3, Tryz.ntmps3
          have tok0 : True := trivial
          go_wp2_with (first
            | (go_at_call 7; have _t := tok0; clear tok0; refine T1.out.mono ?_; rintro e w1 ⟨rfl, hb1⟩; have HB1 := Lib.hid hb1; clear hb1)
            | (at_builtin; refine wpList_append_own _ rfl _ _ 22 rfl w1.heap.size 9 i0 (.string ⟨#[]⟩) 1 16 Tryz.underlying22 hi hz0 hz1 hz2 rfl (by decide) _ 1 [.string ⟨#[33]⟩] rfl ⟨rfl, .inr ⟨w1.heap.size, 1, #[.string ⟨#[33]⟩], rfl, Nat.le_refl _, blk_new w1 _, Nat.le_refl _, by decide, rfl, rfl⟩⟩ ⟨b, o, none⟩ n c (xs.map fun l => Value.string (st l)) rfl CL.out (C1.out _ (HB1.out.alloc HB1.out.size _)) C2.out hmax hby (size_alloc_le _ _) ?_; intro v' w3 hown hgrow _; have HB3 := Lib.hid (grown_from HB1.out hgrow); have HO3 := Lib.hid hown; clear hown hgrow; obtain ⟨A', c', rfl, hc', hL'⟩ := own_bang HO3.out HBS.out; have HC3 := Lib.hid hc'; have HL3 := Lib.hid hL'; clear hc' hL')
            | (go_at_call 7; refine (T2.out _ HB3.out _ _ HC3.out HL3.out).mono ?_; rintro e w4 ⟨rfl, hb4⟩; have HB4 := Lib.hid (HB3.out.trans (hb4.mono HB3.out.size)); clear hb4)
            | (go_at_call 8; refine (HK.out _ HB4.out).mono ?_; rintro e w5 ⟨rfl, hb5⟩; have HB5 := Lib.hid (HB4.out.trans (hb5.mono HB4.out.size)); clear hb5))
          go_ret
          exact ⟨rfl, HB5.out⟩
end Go.Proofs.YtcpafdcghlpabaaGreatDoor.Bu
