/-
The walk of arith's unary; what the parser makes of any text.
-/
import Derived.Test.YtmkajangkibgeaaDoorArithExpr
set_option linter.unusedVariables false
namespace Go.Proofs.YtmkajangkibgeaaDoor.Ar
open Go.RowKit Go.Shelf

theorem takes_open (s : Str) : (∃ x, (x = [45] ∨ x = [33] ∨ x = [40]) ∧ takes opens s = (x, (takes opens s).2)) ∨ takes opens s = ([], skips s) := by
  rcases takes_cases opens s with ⟨x, hx, _, e⟩ | ⟨_, e⟩
  · exact .inl ⟨x, by simpa [opens] using hx, by rw [e]⟩
  · exact .inr e

set_option maxHeartbeats 1600000 in
set_option maxRecDepth 100000 in
theorem unary_un (n : Nat) (hu : Hid (UnaryS n)) (p : PS) (g : Nat) (w : World) (h : IsP w g p) (hl : p.s.length ≤ 300) (hn : 8 * p.s.length + 1 ≤ n + 1) (x : Str) (hx : x = [45] ∨ x = [33]) (hk : takes opens p.s = (x, (takes opens p.s).2)) :
    Calls Tryd.prog 55 #[ptr g] w fun e w' => ∃ a, e = .returned (ptr a) ∧ IsT w' g a (unaryI (n + 1) p).1 ∧ IsP w' g (unaryI (n + 1) p).2 ∧ But w w' g := by
  have h1 : (takes opens p.s).1 = x := by rw [hk]
  have hless := takes_less (xs := opens) (s := p.s) (by rw [h1]; rcases hx with rfl | rfl <;> simp)
  have hex : unaryI (n + 1) p = (.un x (unaryI n ⟨(takes opens p.s).2, p.bad⟩).1, (unaryI n ⟨(takes opens p.s).2, p.bad⟩).2) := by
    simp only [unaryI, h1, if_pos hx]
  have hcp := fun w h => hu.out ⟨(takes opens p.s).2, p.bad⟩ g w h (by simp; omega) (by simp; omega)
  have ctk := takes_c g w.heap.size p opens 3 _ rfl (by decide) (h.alloc _) (isS_new w opens) (by have := h.lt; omega)
  rw [h1] at ctk
  rw [hex]
  generalize unaryI n ⟨(takes opens p.s).2, p.bad⟩ = u at *
  have CTK := Lib.hid ctk; clear ctk
  have HCP := Lib.hid hcp; clear hcp
  clear hk h1 hex hu
  rcases hx with rfl | rfl
  all_goals
    have CT := Lib.hid CTK.out; clear CTK
    go_enter Tryd.func55, Tryd.ntmps55
    go_wp2_with (first
      | (go_at_call 25; refine CT.out.mono ?_; rintro e w2 ⟨rfl, hp2, hb2⟩; have HP2 := Lib.hid hp2; have HB2 := Lib.hid hb2; clear hp2 hb2)
      | (go_at_call 55; refine (HCP.out _ HP2.out).mono ?_; rintro e w3 ⟨c, rfl, ht3, hp3, hb3⟩; have HT3 := Lib.hid ht3; have HP3 := Lib.hid hp3; have HB3 := Lib.hid hb3; clear ht3 hp3 hb3))
    go_ret
    have hb4 := (((But.refl w g).alloc _).trans HB2.out).trans HB3.out
    refine ⟨w3.heap.size + 1, rfl, ?_, ?_, ?_⟩
    · exact IsT.new_un HP3.out.lt HT3.out
    · exact (HP3.out.alloc _).alloc _
    · exact (hb4.alloc _).alloc _

set_option maxHeartbeats 1600000 in
set_option maxRecDepth 100000 in
theorem unary_open (n : Nat) (he : Hid (ExprS n)) (p : PS) (g : Nat) (w : World) (h : IsP w g p) (hl : p.s.length ≤ 300) (hn : 8 * p.s.length + 1 ≤ n + 1) (hk : (takes opens p.s).1 = [40]) :
    Calls Tryd.prog 55 #[ptr g] w fun e w' => ∃ a, e = .returned (ptr a) ∧ IsT w' g a (unaryI (n + 1) p).1 ∧ IsP w' g (unaryI (n + 1) p).2 ∧ But w w' g := by
  have hless := takes_less (xs := opens) (s := p.s) (by rw [hk]; simp)
  have hex : unaryI (n + 1) p = ((exprI n ⟨(takes opens p.s).2, p.bad⟩).1, ⟨(takes [[41]] (exprI n ⟨(takes opens p.s).2, p.bad⟩).2.s).2, (exprI n ⟨(takes opens p.s).2, p.bad⟩).2.bad || decide ((takes [[41]] (exprI n ⟨(takes opens p.s).2, p.bad⟩).2.s).1 = [])⟩) := by
    simp only [unaryI, hk]; rfl
  have hcp := fun w h => he.out ⟨(takes opens p.s).2, p.bad⟩ g w h (by simp; omega) (by simp; omega)
  have ctk := takes_c g w.heap.size p opens 3 _ rfl (by decide) (h.alloc _) (isS_new w opens) (by have := h.lt; omega)
  rw [hk] at ctk
  rw [hex]
  generalize exprI n ⟨(takes opens p.s).2, p.bad⟩ = u at *
  have ctk2 := fun w1 (h1 : IsP w1 g u.2) => takes_c g w1.heap.size u.2 [[41]] 1 _ rfl (by decide) (h1.alloc _) (isS_new w1 [[41]]) (by have := h1.lt; omega)
  obtain ⟨S, hSe⟩ : ∃ S, S = st (takes [[41]] u.2.s).1 := ⟨_, rfl⟩
  rw [← hSe] at ctk2
  have HS := Lib.hid hSe; clear hSe
  have CT2 := Lib.hid ctk2; clear ctk2
  have CT := Lib.hid ctk; clear ctk
  have HCP := Lib.hid hcp; clear hcp
  have HG := Lib.hid h.lt
  clear hk hex he
  by_cases hop : (takes [[41]] u.2.s).1 = []
  · have hSe : S.toList.isEmpty = true := by rw [HS.out, opS, hop]; rfl
    have HO := Lib.hid hop; clear hop
    go_enter Tryd.func55, Tryd.ntmps55
    have tok1 : True := trivial
    go_wp2_with (first
      | (go_at_call 25; have _t := tok1; refine CT.out.mono ?_; rintro e w2 ⟨rfl, hp2, hb2⟩; clear tok1; have HP2 := Lib.hid hp2; have HB2 := Lib.hid hb2; clear hp2 hb2)
      | (go_at_call 13; refine (HCP.out _ HP2.out).mono ?_; rintro e w3 ⟨c, rfl, ht3, hp3, hb3⟩; have HT3 := Lib.hid ht3; have HP3 := Lib.hid hp3; have HB3 := Lib.hid hb3; clear ht3 hp3 hb3)
      | (go_at_call 25; refine (CT2.out _ HP3.out).mono ?_; rintro e w4 ⟨rfl, hp4, hb4⟩; have kf := hp4.f 1; have kc := hp4.c1; have HP4 := Lib.hid hp4; have HB4 := Lib.hid hb4; clear hp4 hb4))
    go_ret
    have hbA := (((But.refl w g).alloc _).trans HB2.out).trans HB3.out
    have hbB := (((But.refl w3 g).alloc _).trans HB4.out).set 1 (.bool true)
    refine ⟨c, rfl, HT3.out.but hbB, ?_, hbA.trans hbB⟩
    rw [decide_eq_true HO.out, Bool.or_true]
    exact HP4.out.set1 true
  · have hSe : S.toList.isEmpty = false := by
      rw [HS.out, opS]
      cases hh : (takes [[41]] u.2.s).1 with
      | nil => exact absurd hh hop
      | cons _ _ => rfl
    have HO := Lib.hid hop; clear hop
    go_enter Tryd.func55, Tryd.ntmps55
    have tok1 : True := trivial
    go_wp2_with (first
      | (go_at_call 25; have _t := tok1; refine CT.out.mono ?_; rintro e w2 ⟨rfl, hp2, hb2⟩; clear tok1; have HP2 := Lib.hid hp2; have HB2 := Lib.hid hb2; clear hp2 hb2)
      | (go_at_call 13; refine (HCP.out _ HP2.out).mono ?_; rintro e w3 ⟨c, rfl, ht3, hp3, hb3⟩; have HT3 := Lib.hid ht3; have HP3 := Lib.hid hp3; have HB3 := Lib.hid hb3; clear ht3 hp3 hb3)
      | (go_at_call 25; refine (CT2.out _ HP3.out).mono ?_; rintro e w4 ⟨rfl, hp4, hb4⟩; have HP4 := Lib.hid hp4; have HB4 := Lib.hid hb4; clear hp4 hb4))
    go_ret
    have hbA := (((But.refl w g).alloc _).trans HB2.out).trans HB3.out
    have hbB := ((But.refl w3 g).alloc _).trans HB4.out
    refine ⟨c, rfl, HT3.out.but hbB, ?_, hbA.trans hbB⟩
    rw [decide_eq_false HO.out, Bool.or_false]
    exact HP4.out

theorem take_tw (q : UInt8 → Bool) (l : Str) : l.take (l.takeWhile q).length = l.takeWhile q := by
  induction l with
  | nil => rfl
  | cons a l ih => rw [List.takeWhile_cons]; split <;> simp [ih]

set_option maxHeartbeats 1600000 in
set_option maxRecDepth 100000 in
theorem unary_atom (n : Nat) (p : PS) (g : Nat) (w : World) (h : IsP w g p) (hl : p.s.length ≤ 300) (hk : takes opens p.s = ([], skips p.s)) :
    Calls Tryd.prog 55 #[ptr g] w fun e w' => ∃ a, e = .returned (ptr a) ∧ IsT w' g a (unaryI (n + 1) p).1 ∧ IsP w' g (unaryI (n + 1) p).2 ∧ But w w' g := by
  have hlen := skips_len p.s
  have hex : unaryI (n + 1) p = atomI (skips p.s) p.bad := by
    simp only [unaryI, hk]; rfl
  have ctk := takes_c g w.heap.size p opens 3 _ rfl (by decide) (h.alloc _) (isS_new w opens) (by have := h.lt; omega)
  rw [hk] at ctk
  rw [hex]
  have CT := Lib.hid ctk; clear ctk
  generalize skips p.s = s at *
  clear hk hex
  have hsz : (st s).size ≤ 300 := by rw [st_size]; omega
  have cd := fun w => runDigit_c (st s) w hsz
  have cm := fun w => runMore_c (st s) w hsz
  simp only [B_st] at cd cm
  have hdrop : ∀ q : UInt8 → Bool, s.drop (s.takeWhile q).length = s.dropWhile q := fun q => drop_tw q s
  have htake : ∀ q : UInt8 → Bool, s.take (s.takeWhile q).length = s.takeWhile q := fun q => take_tw q s
  have hlq := fun q => tw_le q s
  have CD := Lib.hid cd; clear cd
  have CM := Lib.hid cm; clear cm
  by_cases hd : s.takeWhile digit = []
  · have hk0 : (s.takeWhile digit).length = 0 := by rw [hd]; rfl
    rw [hk0] at CD
    have cd : ∀ w, Calls Tryd.prog 71 #[.string (st s), .func (.func 72) #[] #[]] w fun e w' => e = .returned (.int .i64 0) ∧ ∃ n, w' = w.drewN n := CD.out
    clear CD
    have CD := Lib.hid cd; clear cd
    have ccut := fun w1 (h1 : IsP w1 g ⟨s, p.bad⟩) => cut_c g ⟨s, p.bad⟩ (s.takeWhile more).length w1 h1 (hlq more) (by simp; omega)
    simp only [hdrop, htake] at ccut
    have hmz : (st (s.takeWhile more)).size ≤ 2147483647 := by rw [st_size]; have := hlq more; omega
    have cn := fun w => name_c (st (s.takeWhile more)) w hmz
    simp only [B_st] at cn
    have hat : atomI s p.bad = if isName (s.takeWhile more) then (.leaf sName (s.takeWhile more), ⟨s.dropWhile more, p.bad⟩) else (.leaf sName (s.takeWhile more), ⟨[], true⟩) := by unfold atomI; rw [if_neg (by simp [hd])]
    rw [hat]
    clear hdrop htake hlq hat hmz hk0 hd
    generalize s.takeWhile more = m at *
    generalize s.dropWhile more = r at *
    have CC := Lib.hid ccut; clear ccut
    cases hnm : isName m
    all_goals
      rw [hnm] at cn
      clear hnm
      have CN := Lib.hid cn; clear cn
      go_enter Tryd.func55, Tryd.ntmps55
      have tok1 : True := trivial
      go_wp2_with (first
        | (go_at_call 25; refine CT.out.mono ?_; rintro e w2 ⟨rfl, hp2, hb2⟩; have kc := hp2.c0; have HP2 := Lib.hid hp2; have HB2 := Lib.hid hb2; clear hp2 hb2)
        | (go_at_call 71; have _t := tok1; refine (CD.out _).mono ?_; rintro e w3 ⟨rfl, ⟨nn, rfl⟩⟩; clear tok1)
        | (go_at_call 71; refine (CM.out _).mono ?_; rintro e w3 ⟨rfl, ⟨n2, rfl⟩⟩)
        | (go_at_call 73; refine (CC.out _ (by exact HP2.out)).mono ?_; rintro e w4 ⟨rfl, hp4, hb4⟩; have HP4 := Lib.hid hp4; have HB4 := Lib.hid hb4; clear hp4 hb4)
        | (go_at_call 76; refine (CN.out _).mono ?_; rintro e w5 ⟨rfl, hb5⟩; have hp5 := (HP4.out.alloc (.cells #[.string (st sName), .string (st m), .slice none 0 0] 58)).keep hb5; have k50 := hp5.c0; have k51 := hp5.c1; have kf0 := hp5.f 0; have kf1 := hp5.f 1; have HP5 := Lib.hid hp5; have HB5 := Lib.hid hb5; clear hp5 hb5))
      go_ret
      have hbA := (((But.refl w g).alloc _).trans HB2.out).drewN (nn + n2)
      have hbB := (hbA.trans HB4.out).alloc (.cells #[.string (st sName), .string (st m), .slice none 0 0] 58)
      have hbC := hbB.trans (But.of_below HB5.out g)
      have hT : IsT w5 g w4.heap.size (.leaf sName m) := (IsT.new_leaf (op := sName) (text := m) HP4.out.lt).but (But.of_below HB5.out g)
      first
        | exact ⟨w4.heap.size, rfl, hT, HP5.out, hbC⟩
        | exact ⟨w4.heap.size, rfl, hT.but (((But.refl w5 g).set 1 (.bool true)).set 0 (.string (st []))), (HP5.out.set1 true).set0 [], hbC.trans (((But.refl w5 g).set 1 (.bool true)).set 0 (.string (st [])))⟩
  · have hk0 : 0 < (s.takeWhile digit).length := List.length_pos_iff.2 hd
    have ccut := fun w1 (h1 : IsP w1 g ⟨s, p.bad⟩) => cut_c g ⟨s, p.bad⟩ (s.takeWhile digit).length w1 h1 (hlq digit) (by simp; omega)
    simp only [hdrop, htake] at ccut
    have hat : atomI s p.bad = (.leaf sDigits (s.takeWhile digit), ⟨s.dropWhile digit, p.bad⟩) := by unfold atomI; rw [if_pos hd]
    rw [hat]
    have HHD := Lib.hid hdrop; have HHT := Lib.hid htake; have HLQ := Lib.hid hlq
    clear hdrop htake hlq hat
    generalize s.takeWhile digit = d at *
    generalize s.dropWhile digit = r at *
    have CC := Lib.hid ccut; clear ccut
    have HD := Lib.hid hd; clear hd
    go_enter Tryd.func55, Tryd.ntmps55
    go_wp2_with (first
      | (go_at_call 25; refine CT.out.mono ?_; rintro e w2 ⟨rfl, hp2, hb2⟩; have kc := hp2.c0; have HP2 := Lib.hid hp2; have HB2 := Lib.hid hb2; clear hp2 hb2)
      | (go_at_call 71; refine (CD.out _).mono ?_; rintro e w3 ⟨rfl, ⟨nn, rfl⟩⟩)
      | (go_at_call 73; refine (CC.out _ (by exact HP2.out)).mono ?_; rintro e w4 ⟨rfl, hp4, hb4⟩; have HP4 := Lib.hid hp4; have HB4 := Lib.hid hb4; clear hp4 hb4))
    go_ret
    have hbA := (((But.refl w g).alloc _).trans HB2.out).drewN nn
    have hbB := hbA.trans HB4.out
    exact ⟨w4.heap.size, rfl, IsT.new_leaf (op := sDigits) HP4.out.lt, HP4.out.alloc _, hbB.alloc _⟩

/-- What the parser makes of any text. -/
theorem parse_all (n : Nat) : ExprS n ∧ SumS n ∧ ProdS n ∧ UnaryS n := by
  induction n using Nat.strongRecOn with
  | _ n ih =>
    cases n with
    | zero => refine ⟨?_, ?_, ?_, ?_⟩ <;> (intro p g w h hl hn; omega)
    | succ n =>
      refine ⟨expr_c n (ih n (by omega)).2.1, sum_c n fun m hm => (ih m (by omega)).2.2.1, prod_c n fun m hm => (ih m (by omega)).2.2.2, ?_⟩
      intro p g w h hl hn
      rcases takes_open p.s with ⟨x, hx, e⟩ | e
      · rcases hx with rfl | rfl | rfl
        · exact unary_un n (ih n (by omega)).2.2.2 p g w h hl hn _ (.inl rfl) e
        · exact unary_un n (ih n (by omega)).2.2.2 p g w h hl hn _ (.inr rfl) e
        · exact unary_open n (ih n (by omega)).1 p g w h hl hn (by rw [e])
      · exact unary_atom n p g w h hl e
end Go.Proofs.YtmkajangkibgeaaDoor.Ar
