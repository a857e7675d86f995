/-
The walks of arith's parser, first part: blanks, signs.
-/
import Derived.Test.YtmkajangkibgeaaDoorBase
import Derived.Test.YtmkajangkibgeaaDoorArithLaw4
import Derived.Shelf.Strings.SlTrimAscii
import Derived.LoopTactic
set_option linter.unusedVariables false
namespace Go.Proofs.YtmkajangkibgeaaDoor.Ar
open Go.RowKit Go.Shelf

/-- A parser at block g. -/
def IsP (w : World) (g : Nat) (p : PS) : Prop := w.heap[g]? = some (.cells #[.string (st p.s), .bool p.bad] 39 (0, 0))
theorem IsP.c0 {w : World} {g : Nat} {p : PS} (h : IsP w g p) : w.cell? ⟨g, 0, none⟩ = some (.string (st p.s)) := (blk_cell h 0).trans rfl
theorem IsP.c1 {w : World} {g : Nat} {p : PS} (h : IsP w g p) : w.cell? ⟨g, 1, none⟩ = some (.bool p.bad) := (blk_cell h 1).trans rfl
theorem IsP.f {w : World} {g : Nat} {p : PS} (h : IsP w g p) (i : Nat) : w.frozen? ⟨g, i, none⟩ = false := blk_frozen h i
theorem IsP.keep {w w' : World} {g : Nat} {p : PS} (h : IsP w g p) (k : Below w.heap.size w w') : IsP w' g p := (k.block g (blk_lt h)).trans h
theorem IsP.set0 {w : World} {g : Nat} {p : PS} (h : IsP w g p) (x : Str) : IsP (w.setCell ⟨g, 0, none⟩ (.string (st x))) g ⟨x, p.bad⟩ := (blk_set h 0 _).trans rfl
theorem IsP.set1 {w : World} {g : Nat} {p : PS} (h : IsP w g p) (x : Bool) : IsP (w.setCell ⟨g, 1, none⟩ (.bool x)) g ⟨p.s, x⟩ := (blk_set h 1 _).trans rfl
theorem IsP.alloc {w : World} {g : Nat} {p : PS} (h : IsP w g p) (o : Obj) : IsP (w.alloc o) g p := h.keep ((Below.refl _ _).alloc (Nat.le_refl _) _)

theorem trim_skips (s : Str) : Lib.trimLeftS s [32, 9, 10] = skips s := by
  unfold Lib.trimLeftS skips
  congr 1
  funext c
  simp [blank, List.contains, List.elem]
  cases c == 32 <;> cases c == 9 <;> cases c == 10 <;> rfl

theorem trim_c (s : Str) (w : World) : Calls Tryd.prog 26 #[.string (st s), .string ⟨#[32, 9, 10]⟩] w fun e w' => e = .returned (.string (st (skips s))) ∧ Below w.heap.size w w' := by
  have h := Any.strings_TrimLeft_laid Tryd.lays161 (by kernel_rfl) (st s) ⟨#[32, 9, 10]⟩ w (by decide) (ascii_of_all (by decide))
  rw [← trim_skips]
  exact h

set_option maxHeartbeats 400000 in
theorem skips_c (g : Nat) (p : PS) (w : World) (h : IsP w g p) :
    Calls Tryd.prog 14 #[.pointer (some ⟨g, 0, none⟩)] w fun e w' => e = .returned (.tuple #[]) ∧ IsP w' g ⟨skips p.s, p.bad⟩ ∧ But w w' g := by
  have hcon := trim_c p.s
  have h0 := h.c0
  have H := Lib.hid h; clear h
  generalize hr : skips p.s = r at hcon ⊢
  clear hr
  go_enter Tryd.func14, Tryd.ntmps14
  go_wp2_with (go_at_call 26; refine (hcon _).mono ?_; rintro e w' ⟨rfl, hB⟩; have hp := H.out.keep hB; have k0 := hp.c0; have kf := hp.f 0)
  go_end0
  exact ⟨rfl, hp.set0 _, (But.of_below hB g).set _ _⟩

/-- Signs in a block of their own. -/
def IsS (w : World) (b : Nat) (xs : List Str) : Prop := w.heap[b]? = some (.cells (xs.map fun x => Value.string (st x)).toArray 9 (0, 0))
theorem IsS.cell {w : World} {b : Nat} {xs : List Str} (h : IsS w b xs) (k : Nat) (hk : k < xs.length) : w.cell? ⟨b, k, none⟩ = some (.string (st xs[k])) := by
  rw [blk_cell h]; simp [hk]

theorem takes_hit {xs : List Str} {s : Str} {k : Nat} (hk : k < xs.length) (hno : ∀ j (h : j < xs.length), j < k → xs[j].isPrefixOf (skips s) = false) (hy : xs[k].isPrefixOf (skips s) = true) :
    takes xs s = (xs[k], (skips s).drop xs[k].length) := by
  unfold takes
  have : xs.find? (fun x => x.isPrefixOf (skips s)) = some xs[k] := by
    rw [List.find?_eq_some_iff_getElem]
    exact ⟨hy, k, hk, rfl, fun j hj => by simp [hno j (by omega) hj]⟩
  rw [this]
theorem takes_miss {xs : List Str} {s : Str} (hno : ∀ j (h : j < xs.length), xs[j].isPrefixOf (skips s) = false) : takes xs s = ([], skips s) := by
  unfold takes
  have : xs.find? (fun x => x.isPrefixOf (skips s)) = none := by
    rw [List.find?_eq_none]
    intro x hx
    obtain ⟨j, hj, rfl⟩ := List.getElem_of_mem hx
    simp [hno j hj]
  rw [this]
theorem hasPrefix_eq (s x : Str) : Lib.hasPrefix s x = x.isPrefixOf s := rfl

set_option maxHeartbeats 800000 in
theorem takes_c (g b : Nat) (p : PS) (xs : List Str) (n : Nat) (w : World) (hn : xs.length = n) (hn2 : n ≤ 9) (h : IsP w g p) (hs : IsS w b xs) (hbg : b ≠ g) :
    Calls Tryd.prog 25 #[.pointer (some ⟨g, 0, none⟩), .slice (some ⟨b, 0, none⟩) n n] w fun e w' => e = .returned (.string (st (takes xs p.s).1)) ∧ IsP w' g ⟨(takes xs p.s).2, p.bad⟩ ∧ But w w' g := by
  have hsk := skips_c g p
  have H := Lib.hid h; clear h
  have HS := Lib.hid hs; clear hs
  have HN := Lib.hid hn; clear hn
  go_enter Tryd.func25, Tryd.ntmps25
  go_wp2_with (go_at_call 14; refine (hsk _ H.out).mono ?_; rintro e w1 ⟨rfl, h1, hb1⟩)
  clear hsk
  have k0 := h1.c0
  have kf := h1.f 0
  have H1 := Lib.hid h1; clear h1
  have HB := Lib.hid hb1; clear hb1
  go_loop [11] (fun i => ∃ k : Nat, k ≤ n ∧ i = .int .i64 k ∧ ∀ j (hj : j < xs.length), j < k → xs[j].isPrefixOf (skips p.s) = false) (fun i => n - (intOf i).toNat)
  case atStart => exact ⟨0, Nat.zero_le _, rfl, fun j _ hj => absurd hj (by omega)⟩
  case round =>
    obtain ⟨k, hk, rfl, hno⟩ := hrel
    have HNo := Lib.hid hno; clear hno
    by_cases hlt : k < n
    · have hkx : k < xs.length := by have := HN.out; omega
      obtain ⟨x, hx⟩ : ∃ x, x = xs[k] := ⟨_, rfl⟩
      have hcell : w1.cell? ⟨b, k, none⟩ = some (.string (st x)) := by
        rw [hx]; exact IsS.cell (HB.out.blk HS.out hbg) k hkx
      have hpre : ∀ w, Calls Tryd.prog 18 #[.string (st (skips p.s)), .string (st x)] w fun e w' => e = .returned (.bool (x.isPrefixOf (skips p.s))) ∧ w' = w := Tryd.strings_HasPrefix (st (skips p.s)) (st x)
      have HX := Lib.hid hx; clear hx
      cases hy : x.isPrefixOf (skips p.s)
      · rw [hy] at hpre
        have HY := Lib.hid hy; clear hy
        go_wp2_with (go_at_call 18; refine (hpre _).mono ?_; rintro e w2 ⟨rfl, rfl⟩)
        go_round
        case rel => exact ⟨k + 1, by omega, by go_num, fun j hj hjk => by
          rcases Nat.lt_or_ge j k with h | h
          · exact HNo.out j hj h
          · obtain rfl : j = k := by omega
            rw [← HX.out]; exact HY.out⟩
        case measure => simp [intOf]; omega
      · rw [hy] at hpre
        have e := takes_hit hkx HNo.out (by rw [← HX.out]; exact hy)
        rw [← HX.out] at e
        have HE := Lib.hid e; clear e
        have hl : x.length ≤ (skips p.s).length := prefix_len hy
        have HY := Lib.hid hy; clear hy
        go_wp2_with (go_at_call 18; refine (hpre _).mono ?_; rintro e w2 ⟨rfl, rfl⟩)
        go_ret
        rw [HE.out]
        refine ⟨rfl, ?_, ?_⟩
        · rw [st_drop]; exact H1.out.set0 _
        · exact HB.out.set _ _
    · have e := takes_miss (s := p.s) (xs := xs) (fun j hj => HNo.out j hj (by have := HN.out; omega))
      have HE := Lib.hid e; clear e
      go_wp2_with fail
      go_ret
      rw [HE.out]
      exact ⟨rfl, H1.out, HB.out⟩

set_option maxHeartbeats 400000 in
theorem cut_c (g : Nat) (p : PS) (k : Nat) (w : World) (h : IsP w g p) (hk : k ≤ p.s.length) (hl : p.s.length ≤ 300) :
    Calls Tryd.prog 73 #[.pointer (some ⟨g, 0, none⟩), .int .i64 k] w fun e w' => e = .returned (.string (st (p.s.take k))) ∧ IsP w' g ⟨p.s.drop k, p.bad⟩ ∧ But w w' g := by
  have k0 := h.c0
  have kf := h.f 0
  have H := Lib.hid h; clear h
  go_enter Tryd.func73, Tryd.ntmps73
  go_wp2
  go_ret
  rw [st_drop, st_take]
  exact ⟨rfl, H.out.set0 _, (But.refl _ _).set _ _⟩


set_option maxHeartbeats 400000 in
theorem isDigit_c (c : UInt8) (w : World) : Calls Tryd.prog 72 #[.int .u8 c.toNat] w fun e w' => e = .returned (.bool (digit c)) ∧ w' = w := by
  have hc : (c.toNat : Int) ≤ 255 := by have := c.toNat_lt; omega
  by_cases h1 : 48 ≤ (c.toNat : Int) <;> by_cases h2 : (c.toNat : Int) ≤ 57 <;>
    (go_enter Tryd.func72, Tryd.ntmps72
     go_wp2
     go_ret
     exact ⟨ret_bool (by unfold digit; rw [Bool.eq_iff_iff]; simp; omega), rfl⟩)

/-- First, More of a letter's number. -/
def firstZ (r : Int) : Bool := (decide (97 ≤ r) && decide (r ≤ 122)) || (decide (65 ≤ r) && decide (r ≤ 90)) || decide (r = 95)
def moreZ (r : Int) : Bool := firstZ r || (decide (48 ≤ r) && decide (r ≤ 57))
theorem firstZ_u8 (c : UInt8) : firstZ c.toNat = first c := by unfold firstZ first; rw [Bool.eq_iff_iff]; simp; omega
theorem moreZ_u8 (c : UInt8) : moreZ c.toNat = more c := by unfold moreZ more digit; rw [firstZ_u8]; cases first c <;> (rw [Bool.eq_iff_iff]; simp) <;> omega

set_option maxHeartbeats 400000 in
theorem gFirst_c (r : Int) (w : World) : Calls Tryd.prog 85 #[.int .i32 r] w fun e w' => e = .returned (.bool (firstZ r)) ∧ w' = w := by
  by_cases h1 : 97 ≤ r <;> by_cases h2 : r ≤ 122 <;> by_cases h3 : 65 ≤ r <;> by_cases h4 : r ≤ 90 <;> by_cases h5 : r = 95 <;> first
    | (exfalso; omega)
    | (go_enter Tryd.func85, Tryd.ntmps85
       go_wp2
       go_ret
       exact ⟨ret_bool (by unfold firstZ; rw [Bool.eq_iff_iff]; simp <;> omega), rfl⟩)

set_option maxHeartbeats 400000 in
theorem gMore_c (r : Int) (w : World) : Calls Tryd.prog 75 #[.int .i32 r] w fun e w' => e = .returned (.bool (moreZ r)) ∧ w' = w := by
  have hf := gFirst_c r
  unfold moreZ
  cases h : firstZ r
  · rw [h] at hf
    by_cases h1 : 48 ≤ r <;> by_cases h2 : r ≤ 57 <;> first
      | (exfalso; omega)
      | (go_enter Tryd.func75, Tryd.ntmps75
         go_wp2_with (go_at_call 85; refine (hf _).mono ?_; rintro e w' ⟨rfl, rfl⟩)
         go_ret
         exact ⟨ret_bool (by rw [Bool.eq_iff_iff]; simp <;> omega), rfl⟩)
  · rw [h] at hf
    go_enter Tryd.func75, Tryd.ntmps75
    go_wp2_with (go_at_call 85; refine (hf _).mono ?_; rintro e w' ⟨rfl, rfl⟩)
    go_ret
    exact ⟨ret_bool (by simp), rfl⟩

set_option maxHeartbeats 400000 in
theorem unary1_c (c : UInt8) (w : World) : Calls Tryd.prog 74 #[.int .u8 c.toNat] w fun e w' => e = .returned (.bool (more c)) ∧ w' = w := by
  have hf := gMore_c c.toNat
  rw [moreZ_u8] at hf
  have hc : (c.toNat : Int) ≤ 255 := by have := c.toNat_lt; omega
  go_enter Tryd.func74, Tryd.ntmps74
  go_wp2_with (go_at_call 75; refine (hf _).mono ?_; rintro e w' ⟨rfl, rfl⟩)
  go_ret
  exact ⟨rfl, rfl⟩


set_option maxHeartbeats 800000 in
set_option maxRecDepth 100000 in
/-- How many bytes ahead are such. -/
theorem runDigit_c (S : ByteArray) (w : World) (hl : S.size ≤ 300) :
    Calls Tryd.prog 71 #[.string S, .func (.func 72) #[] #[]] w fun e w' => e = .returned (.int .i64 ((B S).takeWhile digit).length) ∧ ∃ n, w' = w.drewN n := by
  go_enter Tryd.func71, Tryd.ntmps71
  go_wp2
  go_loopw [5] (fun i wr => ∃ k : Nat, k ≤ S.size ∧ i = .int .i64 k ∧ (∃ n, wr = w.drewN n) ∧ Hid (((B S).takeWhile digit).length = k + (((B S).drop k).takeWhile digit).length)) (fun i _ => S.size - (intOf i).toNat)
  case atStart => exact ⟨0, Nat.zero_le _, rfl, ⟨0, rfl⟩, by show _ = _; simp⟩
  case round =>
    obtain ⟨k, hk, rfl, ⟨nd, rfl⟩, HK⟩ := hrel
    by_cases hlt : k < S.size
    · have hd : (B S).drop k = S[k] :: (B S).drop (k + 1) := List.drop_eq_getElem_cons (by rw [B_len]; exact hlt)
      have hqc := isDigit_c S[k]
      have HD := Lib.hid hd; clear hd
      cases hqv : digit S[k]
      · rw [hqv] at hqc
        have HQ := Lib.hid hqv; clear hqv
        have HC := Lib.hid hqc; clear hqc
        go_wp2_with (go_at_call 72; refine (HC.out _).mono ?_; rintro e w' ⟨rfl, rfl⟩)
        go_ret
        exact ⟨ret_int (by rw [HK.out, HD.out, List.takeWhile_cons, HQ.out]; simp), _, rfl⟩
      · rw [hqv] at hqc
        have HQ := Lib.hid hqv; clear hqv
        have HC := Lib.hid hqc; clear hqc
        go_wp2_with (go_at_call 72; refine (HC.out _).mono ?_; rintro e w' ⟨rfl, rfl⟩)
        go_roundw
        case rel => exact ⟨k + 1, by omega, by go_num, ⟨_, rfl⟩, by show _ = _; rw [HK.out, HD.out, List.takeWhile_cons, HQ.out]; simp; omega⟩
        case measure => simp [intOf]; omega
    · go_wp2_with fail
      go_ret
      exact ⟨ret_int (by rw [HK.out, List.drop_eq_nil_of_le (by rw [B_len]; omega)]; simp), _, rfl⟩

set_option maxHeartbeats 800000 in
set_option maxRecDepth 100000 in
/-- How many bytes ahead are such. -/
theorem runMore_c (S : ByteArray) (w : World) (hl : S.size ≤ 300) :
    Calls Tryd.prog 71 #[.string S, .func (.func 74) #[] #[]] w fun e w' => e = .returned (.int .i64 ((B S).takeWhile more).length) ∧ ∃ n, w' = w.drewN n := by
  go_enter Tryd.func71, Tryd.ntmps71
  go_wp2
  go_loopw [5] (fun i wr => ∃ k : Nat, k ≤ S.size ∧ i = .int .i64 k ∧ (∃ n, wr = w.drewN n) ∧ Hid (((B S).takeWhile more).length = k + (((B S).drop k).takeWhile more).length)) (fun i _ => S.size - (intOf i).toNat)
  case atStart => exact ⟨0, Nat.zero_le _, rfl, ⟨0, rfl⟩, by show _ = _; simp⟩
  case round =>
    obtain ⟨k, hk, rfl, ⟨nd, rfl⟩, HK⟩ := hrel
    by_cases hlt : k < S.size
    · have hd : (B S).drop k = S[k] :: (B S).drop (k + 1) := List.drop_eq_getElem_cons (by rw [B_len]; exact hlt)
      have hqc := unary1_c S[k]
      have HD := Lib.hid hd; clear hd
      cases hqv : more S[k]
      · rw [hqv] at hqc
        have HQ := Lib.hid hqv; clear hqv
        have HC := Lib.hid hqc; clear hqc
        go_wp2_with (go_at_call 74; refine (HC.out _).mono ?_; rintro e w' ⟨rfl, rfl⟩)
        go_ret
        exact ⟨ret_int (by rw [HK.out, HD.out, List.takeWhile_cons, HQ.out]; simp), _, rfl⟩
      · rw [hqv] at hqc
        have HQ := Lib.hid hqv; clear hqv
        have HC := Lib.hid hqc; clear hqc
        go_wp2_with (go_at_call 74; refine (HC.out _).mono ?_; rintro e w' ⟨rfl, rfl⟩)
        go_roundw
        case rel => exact ⟨k + 1, by omega, by go_num, ⟨_, rfl⟩, by show _ = _; rw [HK.out, HD.out, List.takeWhile_cons, HQ.out]; simp; omega⟩
        case measure => simp [intOf]; omega
    · go_wp2_with fail
      go_ret
      exact ⟨ret_int (by rw [HK.out, List.drop_eq_nil_of_le (by rw [B_len]; omega)]; simp), _, rfl⟩
end Go.Proofs.YtmkajangkibgeaaDoor.Ar
