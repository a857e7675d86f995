/-
The walks of the reference's First, More, Runes, Name: at every text.
-/
import Derived.Test.YtmkajangkibgeaaDoorArithR3
import Derived.OwnWalk
import Derived.Laws.AppendOwn
import Derived.Shelf.Unicode.DecodeLastEight
set_option linter.unusedVariables false
set_option linter.unusedSimpArgs false
namespace Go.Proofs.YtmkajangkibgeaaDoor.Ar
open Go.RowKit Go.Shelf

set_option maxHeartbeats 400000 in
theorem rFirst_c (r : Int) (w : World) : Calls Tryd.prog 89 #[.int .i32 r] w fun e w' => e = .returned (.bool (firstZ r)) ∧ w' = w := by
  by_cases h1 : 97 ≤ r <;> by_cases h2 : r ≤ 122 <;> by_cases h3 : 65 ≤ r <;> by_cases h4 : r ≤ 90 <;> by_cases h5 : r = 95 <;> first
    | (exfalso; omega)
    | (go_enter Tryd.func89, Tryd.ntmps89
       go_wp2
       go_ret
       exact ⟨ret_bool (by unfold firstZ; rw [Bool.eq_iff_iff]; simp <;> omega), rfl⟩)

set_option maxHeartbeats 400000 in
theorem rMore_c (r : Int) (w : World) : Calls Tryd.prog 79 #[.int .i32 r] w fun e w' => e = .returned (.bool (moreZ r)) ∧ w' = w := by
  have hf := rFirst_c r
  unfold moreZ
  cases h : firstZ r
  · rw [h] at hf
    by_cases h1 : 48 ≤ r <;> by_cases h2 : r ≤ 57 <;> first
      | (exfalso; omega)
      | (go_enter Tryd.func79, Tryd.ntmps79
         go_wp2_with (go_at_call 89; refine (hf _).mono ?_; rintro e w' ⟨rfl, rfl⟩)
         go_ret
         exact ⟨ret_bool (by rw [Bool.eq_iff_iff]; simp <;> omega), rfl⟩)
  · rw [h] at hf
    go_enter Tryd.func79, Tryd.ntmps79
    go_wp2_with (go_at_call 89; refine (hf _).mono ?_; rintro e w' ⟨rfl, rfl⟩)
    go_ret
    exact ⟨ret_bool (by simp), rfl⟩

theorem tabs_below {g3 g4 : Nat} {w0 w : World} (h : Lib.Utf8Tabs g3 g4 w0) (hb : Below w0.heap.size w0 w) (h3 : g3 < w0.heap.size) (h4 : g4 < w0.heap.size) : Lib.Utf8Tabs g3 g4 w :=
  ⟨fun c hc => (hb.cell (p := ⟨g3, c, none⟩) h3).trans (h.1 c hc), fun i hi => ⟨(hb.cell (p := ⟨g4, _, none⟩) h4).trans (h.2 i hi).1, (hb.cell (p := ⟨g4, _, none⟩) h4).trans (h.2 i hi).2⟩⟩
theorem Gl.tabs' {w0 w : World} (h : Gl w0) (hb : Below w0.heap.size w0 w) : Lib.Utf8Tabs 3 4 w :=
  tabs_below h.tabs hb (by have := h.size; omega) (by have := h.size; omega)

/-- The letters of a text, as numbers, by so many rounds. -/
def runesF : Nat → Str → List Int
  | 0, _ => []
  | n + 1, l => if l = [] then [] else ((Lib.decodeGo (st l)).1 : Int) :: runesF n (l.drop (Lib.decodeGo (st l)).2)
theorem decode_step (l : Str) (h : l ≠ []) : 1 ≤ (Lib.decodeGo (st l)).2 ∧ (Lib.decodeGo (st l)).2 ≤ l.length ∧ ((Lib.decodeGo (st l)).1 : Int) ≤ 2147483647 := by
  have hs : 0 < (st l).size := by rw [st_size]; exact List.length_pos_iff.2 h
  have e : Lib.decodeGo (st l) = Utf8.decode (st l) 0 := by unfold Lib.decodeGo; rw [if_neg (by omega)]
  have hle := Lib.decodeGo_le_size (st l)
  rw [st_size] at hle
  rw [e] at hle ⊢
  have := decode_le (st l) 0
  exact ⟨(decode_more (st l) 0 hs).2.2.2, hle, by omega⟩
theorem runesF_enough (n : Nat) : ∀ (m : Nat) (l : Str), l.length ≤ n → n ≤ m → runesF m l = runesF n l := by
  induction n with
  | zero =>
    intro m l hl _
    have : l = [] := List.eq_nil_of_length_eq_zero (by omega)
    subst this
    cases m <;> simp [runesF]
  | succ n ih =>
    intro m l hl hm
    obtain ⟨m, rfl⟩ : ∃ k, m = k + 1 := ⟨m - 1, by omega⟩
    unfold runesF
    by_cases h : l = []
    · simp [h]
    · rw [if_neg h, if_neg h]
      have hd := decode_step l h
      rw [ih m _ (by simp; omega) (by omega)]
def runesL (l : Str) : List Int := runesF l.length l
theorem runesL_nil : runesL [] = [] := rfl
theorem runesL_cons (l : Str) (h : l ≠ []) : runesL l = ((Lib.decodeGo (st l)).1 : Int) :: runesL (l.drop (Lib.decodeGo (st l)).2) := by
  have hp : 0 < l.length := List.length_pos_iff.2 h
  have hd := decode_step l h
  unfold runesL
  obtain ⟨n, hn⟩ : ∃ n, l.length = n + 1 := ⟨l.length - 1, by omega⟩
  rw [hn]
  show (if l = [] then [] else _) = _
  rw [if_neg h, runesF_enough _ n _ (Nat.le_refl _) (by simp; omega)]
theorem runesL_len (n : Nat) : ∀ l : Str, l.length ≤ n → (runesL l).length ≤ l.length := by
  induction n with
  | zero => intro l hl; have : l = [] := List.eq_nil_of_length_eq_zero (by omega); subst this; simp [runesL_nil]
  | succ n ih =>
    intro l hl
    by_cases h : l = []
    · subst h; simp [runesL_nil]
    · have hd := decode_step l h
      rw [runesL_cons l h]
      have := ih (l.drop (Lib.decodeGo (st l)).2) (by simp; omega)
      simp at this ⊢; omega

theorem grown_below {w w' : World} (h : Below w.heap.size w w') (row : Option Nat) : w.grownBy w' row := ⟨h.os, h.tape, h.output, h.size, fun i hi _ => h.block i hi⟩
theorem infoI32 : (Tryd.prog.info? 21).map (fun i => (i.zero, i.size, i.bytes)) = some (some (.int .i32 0), 1, 4) := by kernel_rfl

set_option maxHeartbeats 3200000 in
set_option maxRecDepth 100000 in
theorem runes_c (s : Str) (w0 w : World) (hG : Gl w0) (hb : Below w0.heap.size w0 w) (hl : s.length ≤ 2147483647) :
    Calls Tryd.prog 90 #[.string (st s)] w fun e w' => ∃ v, e = .returned v ∧ w'.ownsRow w.heap.size 21 1 v (runesL s).length ((runesL s).map (Value.int .i32)) ∧ Below w.heap.size w w' := by
  have cdec := fun (t : Str) w1 (h : Below w0.heap.size w0 w1) => Tryd.utf8_DecodeRuneInString (st t) w1 (hG.tabs' h)
  have CD := Lib.hid cdec; clear cdec
  have HB := Lib.hid hb; clear hb hG
  obtain ⟨i0, hi, hz0, hz1, hz2⟩ := info_parts infoI32
  obtain ⟨S, hS⟩ : ∃ S, S = st s := ⟨_, rfl⟩
  rw [← hS]
  have HS := Lib.hid hS; clear hS
  go_enter Tryd.func90, Tryd.ntmps90
  go_wp2
  go_loopg [0, 3] s.length (fun kq sv v wr => ∃ (t : Str) (rs : List Int), sv = .string (st t) ∧ t.length ≤ kq ∧ kq ≤ s.length ∧ rs.length + t.length ≤ s.length ∧ Hid (wr.ownsRow w.heap.size 21 1 v rs.length (rs.map (Value.int .i32))) ∧ Hid (Below w.heap.size w wr) ∧ Hid (runesL s = rs ++ runesL t))
  case atStart => exact ⟨s, [], by rw [HS.out], Nat.le_refl _, Nat.le_refl _, by simp, World.ownsRow_nil _ _ _ _, Below.refl _ _, by first | exact trivial | (show _ = _; simp)⟩
  case round =>
    obtain ⟨t, rs, rfl, ht, hks, hrt, HO, HW, HE⟩ := hrel
    have hts : (st t).size = t.length := st_size t
    by_cases h : t = []
    · have he : runesL s = rs := by rw [HE.out, h, runesL_nil, List.append_nil]
      have HE2 := Lib.hid he; clear he
      have e0 : t.length = 0 := by rw [h]; rfl
      obtain ⟨T, hT⟩ : ∃ T, T = st t := ⟨_, rfl⟩
      rw [← hT]
      have hTs : (T.size : Int) ≤ 0 := by rw [hT, hts]; omega
      clear hT hts h e0
      go_wp2_with fail
      go_ret
      exact ⟨_, rfl, by rw [HE2.out]; exact HO.out, HW.out⟩
    · have hd := decode_step t h
      have hcons := runesL_cons t h
      have hsz : 0 < t.length := List.length_pos_iff.2 h
      have cd := CD.out t
      have hslc : (st t).extract (Lib.decodeGo (st t)).2 (st t).size = st (t.drop (Lib.decodeGo (st t)).2) := by rw [hts]; exact st_drop t _
      generalize Lib.decodeGo (st t) = d at *
      obtain ⟨T, hT⟩ : ∃ T, T = st t := ⟨_, rfl⟩
      rw [← hT] at cd hslc hts ⊢
      have hTs : (0 : Int) < T.size := by rw [hts]; omega
      have hd2 : (d.2 : Int) ≤ T.size := by rw [hts]; omega
      have HT := Lib.hid hts; clear hts hT
      have HC := Lib.hid hcons; clear hcons
      have C := Lib.hid cd; clear cd
      have hdd := hd.2.1
      have hd1 := hd.1
      clear h hd
      go_wp2_with (first
        | (at_builtin; refine wpList_append_own _ rfl _ _ 116 rfl w.heap.size 21 i0 (.int .i32 0) 1 4 Tryd.underlying116 hi hz0 hz1 hz2 rfl (by decide) _ _ _ rfl (HO2.out.alloc _) ⟨w2.heap.size, 0, none⟩ 1 1 [.int .i32 d.1] rfl rfl ?c1 ?c2 ?c3 ?c4 ?c5 ?_)
        | (go_at_call 57; refine (C.out _ (HB.out.trans (HW.out.mono HB.out.size))).mono ?_; rintro e w2 ⟨rfl, hb2⟩; have ho2 := HO.out.kept (grown_below hb2 none) (by cases Value.ownBlock _ <;> simp); have HO2 := Lib.hid ho2; have HB2 := Lib.hid (HW.out.trans (hb2.mono HW.out.size)); clear hb2 ho2))
      case c1 =>
        intro j u hj
        match j, hj with
        | 0, hj => simp at hj; subst hj; simp [Addr.add]
      case c2 => intro u hu; simp at hu; subst hu; rfl
      case c3 => unfold maxLen; omega
      case c4 => omega
      case c5 => have := HB2.out.size; simp; omega
      intro v' w3 hown' hgrow _
      have HO3 := Lib.hid hown'; have HG3 := Lib.hid hgrow
      clear hown' hgrow
      go_wp2
      go_roundg (t.drop d.2).length
      case measure => simp; omega
      case rel =>
        refine ⟨t.drop d.2, rs ++ [(d.1 : Int)], rfl, Nat.le_refl _, by simp; omega, by simp; omega, ?_, ?_, ?_⟩
        · have := HO3.out
          show World.ownsRow _ _ _ _ _ _ _
          simpa using this
        · exact (HB2.out.alloc HB2.out.size _).grown HG3.out (by have := HB2.out.size; simp; omega) (fun k hk => by
            have := HO2.out.lt k hk
            exact this.1)
        · show runesL s = _
          rw [HE.out, HC.out]; simp

/-- Whether a text is a name, told by its letters. -/
def nameL (rs : List Int) : Bool := rs.all moreZ && decide (0 < rs.length) && decide (rs.length ≤ 12) && firstZ (rs.getD 0 0)

theorem decodeGo_more (t : Str) (h : t ≠ []) : firstZ (Lib.decodeGo (st t)).1 = first (t.headD 0) ∧ moreZ (Lib.decodeGo (st t)).1 = more (t.headD 0) ∧ (more (t.headD 0) = true → (Lib.decodeGo (st t)).2 = 1) := by
  have hs : 0 < (st t).size := by rw [st_size]; exact List.length_pos_iff.2 h
  have e : Lib.decodeGo (st t) = Utf8.decode (st t) 0 := by unfold Lib.decodeGo; rw [if_neg (by omega)]
  rw [e]
  obtain ⟨a, b, c, _⟩ := decode_more (st t) 0 hs
  have e0 : (st t)[0]'hs = t.headD 0 := by
    cases t with
    | nil => exact absurd rfl h
    | cons x l => rfl
  rw [e0] at a b c
  exact ⟨a, b, c⟩

theorem runes_all (t : Str) : (runesL t).all moreZ = t.all more ∧ (t.all more = true → (runesL t).length = t.length) := by
  induction t using (measure List.length).wf.induction with
  | _ t ih =>
    cases t with
    | nil => simp [runesL_nil]
    | cons c l =>
      have hd := decodeGo_more (c :: l) (by simp)
      rw [runesL_cons (c :: l) (by simp)]
      simp only [List.headD_cons] at hd
      cases hm : more c
      · simp [hd.2.1, hm]
      · have h1 := hd.2.2 hm
        have hi := ih l (by show l.length < (c :: l).length; simp)
        rw [h1]
        simp only [List.drop_succ_cons, List.drop_zero, List.all_cons, List.length_cons]
        rw [hd.2.1, hm, hi.1]
        exact ⟨rfl, fun h => by rw [hi.2 (by simpa using h)]⟩
theorem nameL_eq (t : Str) : nameL (runesL t) = isName t := by
  have h := runes_all t
  unfold nameL
  cases t with
  | nil => simp [runesL_nil, isName]
  | cons c l =>
    have hd := decodeGo_more (c :: l) (by simp)
    simp only [List.headD_cons] at hd
    have hf : firstZ ((runesL (c :: l)).getD 0 0) = first c := by rw [runesL_cons _ (by simp)]; simpa using hd.1
    rw [hf, h.1]
    unfold isName
    cases ha : (c :: l).all more
    · rw [List.all_cons] at ha
      cases hc : first c
      · simp [hc]
      · have hm := first_more hc
        rw [hm] at ha
        simp only [Bool.true_and] at ha
        simp [ha]
    · rw [h.2 ha]
      rw [List.all_cons, Bool.and_eq_true] at ha
      simp only [ha.2]
      cases first c <;> simp

theorem own_view {w : World} {base : Nat} {e : TypeId} {n : Nat} {v : Value} {xs : List Value} (h : w.ownsRow base e 1 v n xs) : ∃ A c, v = .slice A n c ∧ ∀ j, j < n → ∃ g, A = some ⟨g, 0, none⟩ ∧ base ≤ g ∧ w.cell? ⟨g, j, none⟩ = xs[j]? := by
  have hh := h
  rcases h.2 with ⟨rfl, rfl⟩ | ⟨g, cap, cur, rfl, hb, _⟩
  · exact ⟨none, 0, rfl, fun j hj => by omega⟩
  · exact ⟨_, cap, rfl, fun j hj => ⟨g, rfl, hb, hh.cellAt j (by omega)⟩⟩
theorem own_len {w : World} {base : Nat} {e : TypeId} {n : Nat} {v : Value} {xs : List Value} (h : w.ownsRow base e 1 v n xs) : xs.length = n := by have := h.1; simpa using this

set_option maxHeartbeats 1600000 in
set_option maxRecDepth 100000 in
theorem nameR_c (s : Str) (w0 w : World) (hG : Gl w0) (hb : Below w0.heap.size w0 w) (hl : s.length ≤ 2147483647) :
    Calls Tryd.prog 80 #[.string (st s)] w fun e w' => e = .returned (.bool (isName s)) ∧ Below w.heap.size w w' := by
  have cr := runes_c s w0 w hG hb hl
  have hlen := runesL_len s.length s (Nat.le_refl _)
  rw [← nameL_eq]
  generalize runesL s = rs at *
  obtain ⟨res, hres⟩ : ∃ res, res = nameL rs := ⟨_, rfl⟩
  rw [← hres]
  have HR := Lib.hid hres; clear hres
  have CR := Lib.hid cr; clear cr
  clear hG hb
  obtain ⟨n, hn⟩ : ∃ n, n = rs.length := ⟨_, rfl⟩
  rw [← hn] at hlen
  have HN := Lib.hid hn; clear hn
  have HNo : Hid (∀ k (h : k < rs.length), moreZ rs[k] = false → res = false) := fun k h hm => by
    rw [HR.out]; unfold nameL
    have : rs.all moreZ = false := by rw [List.all_eq_false]; exact ⟨_, List.getElem_mem h, by rw [hm]; simp⟩
    rw [this]; simp
  have HYes : Hid ((∀ k (h : k < rs.length), moreZ rs[k] = true) → res = (decide (0 < n) && decide (n ≤ 12) && firstZ (rs.getD 0 0))) := fun h => by
    rw [HR.out]; unfold nameL
    have : rs.all moreZ = true := by
      rw [List.all_eq_true]
      intro x hx
      obtain ⟨k, hk, rfl⟩ := List.getElem_of_mem hx
      exact h k hk
    rw [this, ← HN.out]; simp
  go_enter Tryd.func80, Tryd.ntmps80
  go_wp2_with (go_at_call 90; refine CR.out.mono ?_; rintro e w1 ⟨v, rfl, ho, hb1⟩; rw [← HN.out] at ho; obtain ⟨A, c, rfl, hcl⟩ := own_view ho; have HC := Lib.hid hcl; have HB := Lib.hid hb1; clear ho hb1 hcl)
  go_loop [4] (fun i => ∃ k : Nat, k ≤ n ∧ i = .int .i64 k ∧ Hid (∀ j (h : j < rs.length), j < k → moreZ rs[j] = true)) (fun i => n - (intOf i).toNat)
  case atStart => exact ⟨0, Nat.zero_le _, rfl, fun _ _ h => absurd h (by omega)⟩
  case round =>
    obtain ⟨k, hk, rfl, HM⟩ := hrel
    by_cases hlt : k < n
    · have hkr : k < rs.length := by have := HN.out; omega
      obtain ⟨g, rfl, _, hc0⟩ := HC.out k hlt
      rw [List.getElem?_map, List.getElem?_eq_getElem hkr, Option.map_some] at hc0
      have cm := rMore_c rs[k]
      cases hm : moreZ rs[k]
      · have hr := HNo.out k hkr hm
        rw [hm] at cm
        have HR2 := Lib.hid hr; clear hr hm
        generalize rs[k] = z at *
        go_wp2_with (go_at_call 79; refine (cm _).mono ?_; rintro e w' ⟨rfl, rfl⟩)
        go_ret
        exact ⟨by rw [HR2.out]; rfl, HB.out⟩
      · rw [hm] at cm
        have HM2 : Hid (∀ j (h : j < rs.length), j < k + 1 → moreZ rs[j] = true) := fun j h hj => by
          rcases Nat.lt_or_ge j k with h3 | h3
          · exact HM.out j h h3
          · obtain rfl : j = k := by omega
            exact hm
        clear hm
        generalize rs[k] = z at *
        go_wp2_with (go_at_call 79; refine (cm _).mono ?_; rintro e w' ⟨rfl, rfl⟩)
        go_round
        case rel => exact ⟨k + 1, by omega, by go_num, HM2⟩
        case measure => simp [intOf]; omega
    · have hy := HYes.out fun j h => HM.out j h (by have := HN.out; omega)
      have HY := Lib.hid hy; clear hy
      by_cases h0 : 0 < n
      · obtain ⟨g, rfl, _, hc0⟩ := HC.out 0 h0
        have hkr : 0 < rs.length := by have := HN.out; omega
        rw [List.getElem?_map, List.getElem?_eq_getElem hkr, Option.map_some] at hc0
        have cf := rFirst_c rs[0]
        have e0 : rs.getD 0 0 = rs[0] := by simp [List.getD_eq_getElem?_getD, hkr]
        rw [e0] at HY
        clear e0
        generalize rs[0] = z at *
        have hpos : (0 : Int) < n := by omega
        by_cases h12 : n ≤ 12
        all_goals
          go_wp2_with (go_at_call 89; refine (cf _).mono ?_; rintro e w' ⟨rfl, rfl⟩)
          go_ret
          exact ⟨ret_bool (by rw [HY.out]; simp [h12]; first | done | omega), HB.out⟩
      · have hz : (n : Int) ≤ 0 := by omega
        have hd : decide (0 < n) = false := by simp; omega
        rw [hd] at HY
        clear hd
        go_wp2_with fail
        go_ret
        exact ⟨by rw [HY.out]; rfl, HB.out⟩
end Go.Proofs.YtmkajangkibgeaaDoor.Ar
