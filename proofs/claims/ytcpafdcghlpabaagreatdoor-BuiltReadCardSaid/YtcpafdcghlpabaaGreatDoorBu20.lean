/-
Run at read, as the law of reading uses it: the plain facts of lines, and three contracts.
-/
import Derived.Test.YtcpafdcghlpabaaGreatDoorBu19
set_option linter.unusedVariables false
set_option linter.unusedSimpArgs false
namespace Go.Proofs.YtcpafdcghlpabaaGreatDoor.Bu
open Go.RowKit Go.Shelf Go.Proofs.YtcpafdcghlpabaaGreatDoor.Ar

/-- Lines, each with its line feed. -/
def cat : List Str → Str
  | [] => []
  | l :: r => l ++ 10 :: cat r
theorem cat_append : ∀ (a b : List Str), cat (a ++ b) = cat a ++ cat b
  | [], b => rfl
  | l :: r, b => by simp [cat, cat_append r b]
theorem cat_next (xs : List Str) (j : Nat) (h : j < xs.length) : cat (xs.take (j + 1)) = cat (xs.take j) ++ xs[j] ++ [10] := by
  rw [List.take_succ_eq_append_getElem h, cat_append]; simp [cat]
theorem cat_len_le (xs : List Str) (h : ∀ j (h : j < xs.length), xs[j].length ≤ 60) : (cat xs).length ≤ 61 * xs.length := by
  induction xs with
  | nil => simp [cat]
  | cons l r ih =>
    have h0 := h 0 (by simp)
    have h1 := ih (fun j hj => h (j + 1) (by simp; omega))
    simp [cat] at h0 ⊢; omega
theorem cat_drop (xs : List Str) (j : Nat) : (cat xs).drop (cat (xs.take j)).length = cat (xs.drop j) := by
  have h : cat xs = cat (xs.take j) ++ cat (xs.drop j) := by rw [← cat_append, List.take_append_drop]
  rw [h, List.drop_append_of_le_length (by simp), List.drop_length, List.nil_append]
theorem cat_at (xs : List Str) (j : Nat) (h : j < xs.length) : (cat xs).drop (cat (xs.take j)).length = xs[j] ++ 10 :: cat (xs.drop (j + 1)) := by
  rw [cat_drop, List.drop_eq_getElem_cons h]; rfl
theorem cat_le (xs : List Str) (j : Nat) : (cat (xs.take j)).length ≤ (cat xs).length := by
  have h : cat xs = cat (xs.take j) ++ cat (xs.drop j) := by rw [← cat_append, List.take_append_drop]
  rw [h]; simp

def sX : Str := [120]
def sOne : Str := [49]
@[reducible] def rdS (A : Option Addr) (n c : Nat) (s : Int) (D : ByteArray) (a : Int) : Sta := { zeroS with vars := ⟨A, n, c⟩, status := s, ind := D, inat := a }
theorem put_x (bs : List Bd) (l : Str) (h : bs = [] ∨ ∃ v, bs = [⟨sX, v⟩]) : PutOk bs [⟨sX, l⟩] sX l := by
  intro w A c hB
  rcases h with rfl | ⟨v, rfl⟩
  · exact put_end [] sX l A 0 c w w hB rfl (Below.refl _ _) (by omega) (by decide +kernel) (by decide +kernel)
  · have hk : keyOf [⟨sX, v⟩] = keyOf [⟨sX, []⟩] := by funext k; cases k <;> rfl
    exact put_found [⟨sX, v⟩] sX l A 1 c w w hB rfl (Below.refl _ _) (by omega) 0 (by omega) (by show (decide (bsL (keyOf [⟨sX, v⟩]) sX 1 0 1 < 1) && decide (cmpZ (keyOf [⟨sX, v⟩] (bsL (keyOf [⟨sX, v⟩]) sX 1 0 1)) sX = 0)) = true; rw [hk]; decide +kernel) (by show bsL (keyOf [⟨sX, v⟩]) sX 1 0 1 = 0; rw [hk]; decide +kernel)

def RunLine (D : ByteArray) (a' : Int) (l : Str) (w : World) (e : Ending) (w' : World) : Prop := ∃ b c', e = ran (rdS (some b) 1 c' 0 D a') 0 0 ∧ 1 ≤ c' ∧ IsB w' (some b) [⟨sX, l⟩] ∧ High w.heap.size (some b) ∧ Below w.heap.size w w'
theorem run_line (VA : Option Addr) (nb vc a b : Nat) (D l r : Str) (bs : List Bd) (w0 w : World) (hG : Gb w0) (hL : IsL w0 (some ⟨b, 0, none⟩) [sRead, sX]) (hb : Below w0.heap.size w0 w) (hB : IsB w0 VA bs) (hbs : bs = [] ∨ ∃ v, bs = [⟨sX, v⟩]) (hle : a ≤ D.length) (hl : D.length ≤ 1000000) (hd : D.drop a = l ++ 10 :: r) (h10 : (10 : UInt8) ∉ l) (hnb : bs.length = nb) :
    Calls Tryz.prog 9 #[Sta.val (rdS VA nb vc 0 (st D) (a : Int)), .slice (some ⟨b, 0, none⟩) 2 2] w (RunLine (st D) ((a + l.length + 1 : Nat) : Int) l w) := by
  obtain ⟨e1, e2⟩ := line_of l r h10
  have hne : D.drop a ≠ [] := by rw [hd]; simp
  have hput : PutOk bs [⟨sX, l⟩] sX (lineZ (D.drop a)) := by rw [hd, e1]; exact put_x bs l hbs
  have hlen : D.length - a = l.length + 1 + r.length := by have := congrArg List.length hd; simp at this; omega
  have hbig : bs.length ≤ 1000 := by rcases hbs with rfl | ⟨v, rfl⟩ <;> simp
  subst hnb
  have h := run_read_yes VA vc none 0 0 0 ⟨#[]⟩ D a 0 ⟨#[]⟩ 0 ⟨#[]⟩ none 0 0 0 0 false false 0 none 0 0 none 0 0 ⟨#[]⟩ bs [⟨sX, l⟩] sX b 0 w0 w hG hL hb (by decide) hB hbig hle hl hne (by decide +kernel) hput
  refine h.mono ?_
  rintro e w' ⟨A', c', rfl, hc', hB', hh', hb'⟩
  obtain ⟨bb, oo, rfl, _⟩ := hB'.cell 0 (by simp)
  refine ⟨_, c', ?_, hc', hB', hh', hb'⟩
  have hz : ((D.length - (restZ (D.drop a)).length : Nat) : Int) = ((a + l.length + 1 : Nat) : Int) := by rw [hd, e2]; congr 1; omega
  unfold lineS
  rw [if_neg hne, hz]
  rfl
theorem run_last (VA : Option Addr) (nb vc a b : Nat) (D : Str) (bs : List Bd) (w0 w : World) (hG : Gb w0) (hL : IsL w0 (some ⟨b, 0, none⟩) [sRead, sX]) (hb : Below w0.heap.size w0 w) (hle : a ≤ D.length) (hl : D.length ≤ 1000000) (hd : D.drop a = []) (hnb : bs.length = nb) :
    Calls Tryz.prog 9 #[Sta.val (rdS VA nb vc 0 (st D) (a : Int)), .slice (some ⟨b, 0, none⟩) 2 2] w fun e w' => e = ran (rdS VA nb vc 1 (st D) (a : Int)) 0 0 ∧ Below w.heap.size w w' := by
  subst hnb
  exact run_read_none VA vc none 0 0 0 ⟨#[]⟩ D a 0 ⟨#[]⟩ 0 ⟨#[]⟩ none 0 0 0 0 false false 0 none 0 0 none 0 0 ⟨#[]⟩ bs sX b 0 w0 w hG hL hb (by decide) hle hl hd (by decide +kernel)
theorem run_one (VA : Option Addr) (nb vc a b : Nat) (D : Str) (bs : List Bd) (w0 w : World) (hG : Gb w0) (hL : IsL w0 (some ⟨b, 0, none⟩) [sRead, sOne]) (hb : Below w0.heap.size w0 w) (hnb : bs.length = nb) :
    Calls Tryz.prog 9 #[Sta.val (rdS VA nb vc 0 (st D) (a : Int)), .slice (some ⟨b, 0, none⟩) 2 2] w fun e w' => e = ran (rdS VA nb vc 2 (st D) (a : Int)) 0 0 ∧ Below w.heap.size w w' := by
  subst hnb
  exact run_read_bad VA vc none 0 0 0 ⟨#[]⟩ D a 0 ⟨#[]⟩ 0 ⟨#[]⟩ none 0 0 0 0 false false 0 none 0 0 none 0 0 ⟨#[]⟩ bs sOne b 0 w0 w hG hL hb (by decide) (by decide +kernel)
theorem read_two (w : World) (x : Str) (h : x.length ≤ 100) : IsL (w.alloc (.cells #[.string ⟨#[114, 101, 97, 100]⟩, .string (st x)] 9)) (some ⟨w.heap.size, 0, none⟩) [sRead, x] := isL_own w [sRead, x] 9 (by
  intro y hy
  rcases List.mem_cons.1 hy with rfl | hy
  · decide
  · obtain rfl : y = x := by simpa using hy
    omega)
end Go.Proofs.YtcpafdcghlpabaaGreatDoor.Bu
