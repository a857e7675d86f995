/-
arith.Num: the number that a text is, or none: the plain law and the walk.
-/
import Derived.Test.YtcpafdcghlpabaaGreatDoorGly
import Derived.Lib.ParseIntB
import Derived.Lib.IndexAny
set_option linter.unusedVariables false
set_option linter.unusedSimpArgs false
namespace Go.Proofs.YtcpafdcghlpabaaGreatDoor.Ar
open Go.RowKit Go.Shelf

def natOf (s : Str) : Nat := s.foldl (fun n c => 10 * n + (c.toNat - 48)) 0
def numZ (s : Str) : Option Int :=
  match s with
  | [] => none
  | c :: r =>
    if c = 45 then
      if r ≠ [] ∧ r.all digit = true ∧ natOf r ≤ 9223372036854775808 then some (-(natOf r : Int)) else none
    else if s.all digit = true ∧ natOf s ≤ 9223372036854775807 then some (natOf s : Int) else none

def natFrom (acc : Nat) (s : Str) : Nat := s.foldl (fun n c => 10 * n + (c.toNat - 48)) acc
theorem natFrom_cons (acc : Nat) (c : UInt8) (s : Str) : natFrom acc (c :: s) = natFrom (10 * acc + (c.toNat - 48)) s := by
  unfold natFrom; rw [List.foldl_cons]
theorem natFrom_ge (s : Str) : ∀ acc, acc ≤ natFrom acc s := by
  induction s with
  | nil => intro acc; exact Nat.le_refl _
  | cons c s ih => intro acc; rw [natFrom_cons]; have := ih (10 * acc + (c.toNat - 48)); omega

theorem digit_iff (c : UInt8) : digit c = true ↔ 48 ≤ c.toNat ∧ c.toNat ≤ 57 := by simp [digit]

theorem uint_ok (l : Str) : ∀ acc u, Lib.parseUintM (2 ^ 64 - 1) acc l = .ok u → acc ≤ 2 ^ 64 - 1 → l.all digit = true ∧ u = natFrom acc l ∧ u ≤ 2 ^ 64 - 1 := by
  induction l with
  | nil => intro acc u h ha; simp only [Lib.parseUintM] at h; cases h; exact ⟨rfl, rfl, ha⟩
  | cons c l ih =>
    intro acc u h ha
    simp only [Lib.parseUintM] at h
    split at h
    · rename_i hd
      split at h
      · cases h
      · split at h
        · cases h
        · rename_i h1 h2
          obtain ⟨a, b, d⟩ := ih _ _ h (by omega)
          refine ⟨by rw [List.all_cons, (digit_iff c).2 hd, a]; rfl, ?_, d⟩
          rw [b, natFrom_cons, Nat.mul_comm]
    · cases h
theorem uint_of (l : Str) : ∀ acc, l.all digit = true → natFrom acc l ≤ 2 ^ 64 - 1 → Lib.parseUintM (2 ^ 64 - 1) acc l = .ok (natFrom acc l) := by
  induction l with
  | nil => intro acc _ _; rfl
  | cons c l ih =>
    intro acc h hn
    rw [List.all_cons, Bool.and_eq_true] at h
    rw [natFrom_cons] at hn ⊢
    have hg := natFrom_ge l (10 * acc + (c.toNat - 48))
    simp only [Lib.parseUintM]
    have e : acc * 10 + (c.toNat - 48) = 10 * acc + (c.toNat - 48) := by rw [Nat.mul_comm]
    rw [if_pos ((digit_iff c).1 h.1), if_neg (by omega), if_neg (by omega), e]
    exact ih _ h.2 hn

def okOf {α : Type} : Lib.NumEnd α → Option α
  | .ok v => some v
  | _ => none

theorem uintB_some (l : Str) : okOf (Lib.parseUintB 64 l) = if l ≠ [] ∧ l.all digit = true ∧ natOf l ≤ 2 ^ 64 - 1 then some (natOf l) else none := by
  unfold Lib.parseUintB
  by_cases h0 : l = []
  · rw [if_pos h0, if_neg (by simp [h0])]; rfl
  · rw [if_neg h0]
    by_cases h : l.all digit = true ∧ natOf l ≤ 2 ^ 64 - 1
    · rw [if_pos ⟨h0, h⟩, uint_of l 0 h.1 h.2]; rfl
    · rw [if_neg (by intro hh; exact h hh.2)]
      cases hp : Lib.parseUintM (2 ^ 64 - 1) 0 l with
      | ok u =>
        obtain ⟨a, b, c⟩ := uint_ok l 0 u hp (by decide)
        exact absurd ⟨a, by show natFrom 0 l ≤ _; rw [← b]; exact c⟩ h
      | _ => rfl

theorem okOf_some {α : Type} {x : Lib.NumEnd α} {v : α} (h : okOf x = some v) : x = .ok v := by cases x <;> simp_all [okOf]
theorem numZ_parse (l : Str) (hp : ([43] : Str).isPrefixOf l = false) : numZ l = okOf (Lib.parseIntB 64 l) := by
  cases l with
  | nil => rfl
  | cons c r =>
    have hc : c ≠ 43 := by
      intro e; subst e; simp [List.isPrefixOf] at hp
    have hcn : ¬ c.toNat = 43 := fun e => hc (UInt8.toNat_inj.1 e)
    by_cases h45 : c = 45
    · subst h45
      have hu := uintB_some r
      have e : Lib.parseIntB 64 (45 :: r) = (match Lib.parseUintB 64 r with | Lib.NumEnd.syntax => Lib.NumEnd.syntax | .range => .range | .ok u => if 2 ^ 63 < u then .range else .ok (-(u : Int))) := by
        unfold Lib.parseIntB
        simp
        cases Lib.parseUintB 64 r <;> simp
      rw [e]
      unfold numZ
      simp only [if_true]
      cases hx : Lib.parseUintB 64 r with
      | ok u =>
        rw [hx] at hu
        simp only [okOf] at hu
        split at hu
        · rename_i hh
          injection hu with hu
          subst hu
          by_cases hb : natOf r ≤ 9223372036854775808
          · rw [if_pos ⟨hh.1, hh.2.1, hb⟩]
            simp only
            rw [if_neg (by omega)]; rfl
          · rw [if_neg (by intro hk; exact hb hk.2.2)]
            simp only
            rw [if_pos (by omega)]; rfl
        · cases hu
      | _ =>
        rw [hx] at hu
        simp only [okOf] at hu ⊢
        split at hu
        · cases hu
        · rename_i hh
          rw [if_neg (by intro hk; exact hh ⟨hk.1, hk.2.1, by omega⟩)]
    · have h45n : ¬ c.toNat = 45 := fun e => h45 (UInt8.toNat_inj.1 e)
      have hu := uintB_some (c :: r)
      have e : Lib.parseIntB 64 (c :: r) = (match Lib.parseUintB 64 (c :: r) with | Lib.NumEnd.syntax => Lib.NumEnd.syntax | .range => .range | .ok u => if 2 ^ 63 ≤ u then .range else .ok (u : Int)) := by
        unfold Lib.parseIntB
        simp only [hcn, h45n, or_self, if_false, false_and, not_false_eq_true, true_and]
        cases Lib.parseUintB 64 (c :: r) <;> simp
      rw [e]
      unfold numZ
      simp only [h45, if_false]
      cases hx : Lib.parseUintB 64 (c :: r) with
      | ok u =>
        rw [hx] at hu
        simp only [okOf] at hu
        split at hu
        · rename_i hh
          injection hu with hu
          subst hu
          by_cases hb : natOf (c :: r) ≤ 9223372036854775807
          · rw [if_pos ⟨hh.2.1, hb⟩]
            simp only
            rw [if_neg (by omega)]; rfl
          · rw [if_neg (by intro hk; exact hb hk.2)]
            simp only
            rw [if_pos (by omega)]; rfl
        · cases hu
      | _ =>
        rw [hx] at hu
        simp only [okOf] at hu ⊢
        split at hu
        · cases hu
        · rename_i hh
          rw [if_neg (by intro hk; exact hh ⟨by simp, hk.1, by omega⟩)]

theorem numZ_plus (l : Str) (hp : ([43] : Str).isPrefixOf l = true) : numZ l = none := by
  cases l with
  | nil => rfl
  | cons c r =>
    have hc : c = 43 := by simp [List.isPrefixOf] at hp; exact hp.symm
    subst hc
    unfold numZ
    simp only [show ¬ ((43 : UInt8) = 45) by decide, if_false, List.all_cons, show digit 43 = false by decide]
    simp
theorem numZ_under (l : Str) (h : (95 : UInt8) ∈ l) : numZ l = none := by
  cases l with
  | nil => rfl
  | cons c r =>
    unfold numZ
    by_cases hc : c = 45
    · subst hc
      have hr : (95 : UInt8) ∈ r := by simpa using h
      have : r.all digit = false := by rw [List.all_eq_false]; exact ⟨95, hr, by decide⟩
      simp [this]
    · have : (c :: r).all digit = false := by rw [List.all_eq_false]; exact ⟨95, h, by decide⟩
      simp only [hc, if_false, this]; simp

theorem index_neg (l : Str) (c : UInt8) : decide (0 ≤ Lib.indexByte l c) = l.contains c := (Lib.contains_iff_indexByte l c).symm

/-- The library's variables, as the call finds them. -/
structure Gl (w0 : World) : Prop where
  syn : ∃ tp p, w0.var? Tryz.prog "strconv.ErrSyntax" = some #[.iface tp p]
  rng : ∃ tp p, w0.var? Tryz.prog "strconv.ErrRange" = some #[.iface tp p]
  size : 3 < w0.heap.size ∧ 4 < w0.heap.size
theorem gname_syn : Tryz.prog.globalNamed "strconv.ErrSyntax" = some 3 := by kernel_rfl
theorem gname_rng : Tryz.prog.globalNamed "strconv.ErrRange" = some 4 := by kernel_rfl
theorem Gl.syn' {w0 w : World} (h : Gl w0) (hb : Below w0.heap.size w0 w) : ∃ tp p, w.var? Tryz.prog "strconv.ErrSyntax" = some #[.iface tp p] := by
  obtain ⟨tp, p, e⟩ := h.syn
  exact ⟨tp, p, var?_below hb gname_syn (by have := h.size; omega) e⟩
theorem Gl.rng' {w0 w : World} (h : Gl w0) (hb : Below w0.heap.size w0 w) : ∃ tp p, w.var? Tryz.prog "strconv.ErrRange" = some #[.iface tp p] := by
  obtain ⟨tp, p, e⟩ := h.rng
  exact ⟨tp, p, var?_below hb gname_rng (by have := h.size; omega) e⟩

theorem Gl.mono {w0 w : World} (h : Gl w0) (hb : Below w0.heap.size w0 w) : Gl w :=
  ⟨h.syn' hb, h.rng' hb, ⟨Nat.lt_of_lt_of_le h.size.1 hb.size, Nat.lt_of_lt_of_le h.size.2 hb.size⟩⟩

theorem below_bytes (w : World) (e : TypeId) (t : ByteArray) : Below w.heap.size w (Lib.bytesWorld w e t) := by
  refine ⟨?_, ?_, ?_, ?_, fun k hk => Lib.bytesWorld_at_old w e t k hk⟩ <;> simp [Lib.bytesWorld, World.freeze, World.alloc, World.drew, -World.alloc_eq, -World.drew_eq]

/-- What strconv.ParseInt answers: by three roads. -/
theorem parse_c (s : Str) (w0 w : World) (hG : Gl w0) (hb : Below w0.heap.size w0 w) (hl : s.length ≤ 140737488351232) :
    Calls Tryz.prog 74 #[.string (st s), .int .i64 10, .int .i64 64] w fun e w' =>
      (∃ v ev, e = .returned (.tuple #[.int .i64 v, ev]) ∧ (ev = .nilIface ↔ (okOf (Lib.parseIntB 64 s)).isSome = true) ∧ (∀ z, okOf (Lib.parseIntB 64 s) = some z → v = z) ∧ ((okOf (Lib.parseIntB 64 s)).isSome = false → ∃ t a, ev = .iface t (.pointer a))) ∧ Below w.heap.size w w' := by
  have hsz : (st s).size = s.length := st_size s
  cases hx : Lib.parseIntB 64 s with
  | ok v =>
    refine (Tryz.strconv_ParseInt_10_at64_ok (st s) (by omega) v hx w).mono ?_
    rintro e w' ⟨rfl, hw⟩
    refine ⟨⟨v, .nilIface, rfl, by simp [okOf], by simp [okOf], by simp [okOf]⟩, ?_⟩
    rcases hw with rfl | ⟨t, rfl⟩
    · exact Below.refl _ _
    · exact below_bytes _ _ _
  | range =>
    obtain ⟨tp, p, e⟩ := hG.rng' hb
    refine (Tryz.strconv_ParseInt_10_at64_range_var (st s) (by omega) hx tp p w e).mono ?_
    rintro e w' ⟨N, rfl, _, _, hw⟩
    exact ⟨⟨_, _, rfl, by simp [okOf], by simp [okOf], fun _ => ⟨_, _, rfl⟩⟩, hw⟩
  | _ =>
    obtain ⟨tp, p, e⟩ := hG.syn' hb
    refine (Tryz.strconv_ParseInt_10_at64_syntax_var (st s) (by omega) hx tp p w e).mono ?_
    rintro e w' ⟨N, rfl, _, _, hw⟩
    exact ⟨⟨_, _, rfl, by simp [okOf], by simp [okOf], fun _ => ⟨_, _, rfl⟩⟩, hw⟩

set_option maxHeartbeats 1000000 in
/-- arith.Num, at every text. -/
theorem num_c (s : Str) (w0 w : World) (hG : Gl w0) (hb : Below w0.heap.size w0 w) (hl : s.length ≤ 140737488351232) :
    Calls Tryz.prog 41 #[.string (st s)] w fun e w' => (∃ v, e = .returned (.tuple #[.int .i64 v, .bool (numZ s).isSome]) ∧ v = (numZ s).getD 0) ∧ Below w.heap.size w w' := by
  have hpre : ∀ w, Calls Tryz.prog 72 #[.string (st s), .string ⟨#[43]⟩] w fun e w' => e = .returned (.bool (([43] : Str).isPrefixOf s)) ∧ w' = w := fun w => Tryz.strings_HasPrefix (st s) ⟨#[43]⟩ w
  have hcon : ∀ w, Calls Tryz.prog 73 #[.string (st s), .string ⟨#[95]⟩] w fun e w' => e = .returned (.bool (s.contains 95)) ∧ w' = w := fun w => by
    have := Tryz.strings_Contains_one (st s) 95 w
    rw [index_neg] at this
    exact this
  have hpar := fun w hb => parse_c s w0 w hG hb hl
  generalize hS : st s = S at *
  clear hS
  cases h1 : ([43] : Str).isPrefixOf s
  · rw [h1] at hpre
    cases h2 : s.contains 95
    · rw [h2] at hcon
      have hz := numZ_parse s h1
      rw [← hz] at hpar
      clear h1 h2 hz
      have HP := Lib.hid hpar; clear hpar
      cases h3 : numZ s with
      | none =>
        rw [h3] at HP
        have HB := Lib.hid hb; clear hb h3
        go_enter Tryz.func41, Tryz.ntmps41
        go_wp2_with (first
          | (go_at_call 72; refine (hpre _).mono ?_; rintro e w' ⟨rfl, rfl⟩)
          | (go_at_call 73; refine (hcon _).mono ?_; rintro e w' ⟨rfl, rfl⟩)
          | (go_at_call 74; refine (HP.out _ HB.out).mono ?_; rintro e w' ⟨⟨v, ev, rfl, _, _, hev⟩, hb'⟩; obtain ⟨t, a, rfl⟩ := hev rfl; have HB2 := Lib.hid hb'; clear hb' hev))
        go_ret2
        exact ⟨⟨0, rfl, rfl⟩, HB2.out⟩
      | some z =>
        rw [h3] at HP
        have HB := Lib.hid hb; clear hb h3
        go_enter Tryz.func41, Tryz.ntmps41
        go_wp2_with (first
          | (go_at_call 72; refine (hpre _).mono ?_; rintro e w' ⟨rfl, rfl⟩)
          | (go_at_call 73; refine (hcon _).mono ?_; rintro e w' ⟨rfl, rfl⟩)
          | (go_at_call 74; refine (HP.out _ HB.out).mono ?_; rintro e w' ⟨⟨v, ev, rfl, hnil, hval, _⟩, hb'⟩; obtain rfl := hnil.2 rfl; have HB2 := Lib.hid hb'; have HV := Lib.hid (hval z rfl); clear hb' hnil hval))
        go_ret2
        exact ⟨⟨v, rfl, HV.out⟩, HB2.out⟩
    · rw [h2] at hcon
      have hz := numZ_under s (by simpa using h2)
      rw [hz]
      clear h1 h2 hz hpar
      go_enter Tryz.func41, Tryz.ntmps41
      go_wp2_with (first
        | (go_at_call 72; refine (hpre _).mono ?_; rintro e w' ⟨rfl, rfl⟩)
        | (go_at_call 73; refine (hcon _).mono ?_; rintro e w' ⟨rfl, rfl⟩))
      go_ret2
      exact ⟨⟨0, rfl, rfl⟩, Below.refl _ _⟩
  · rw [h1] at hpre
    have hz := numZ_plus s h1
    rw [hz]
    clear h1 hz hpar
    go_enter Tryz.func41, Tryz.ntmps41
    go_wp2_with (go_at_call 72; refine (hpre _).mono ?_; rintro e w' ⟨rfl, rfl⟩)
    go_ret2
    exact ⟨⟨0, rfl, rfl⟩, Below.refl _ _⟩
end Go.Proofs.YtcpafdcghlpabaaGreatDoor.Ar
