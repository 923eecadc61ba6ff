/-
  What is proved: what wire's numbers and counts come to, as bytes behind bytes. Conditions: none.
-/
import Derived.Test.YtiiohfojejfolaaDoorF1
import Derived.Test.YtiiohfojejfolaaDoorD10
import Derived.Test.YtiiohfojejfolaaDoorEvH
set_option linter.unusedVariables false
set_option linter.unusedSimpArgs false
namespace Go.Proofs.YtiiohfojejfolaaDoor
open Go Go.Ev Go.Proofs

/-! ### a number's bytes, the lowest first -/
def lowV (n : Int) (i : Nat) : V := .int .u8 (IntKind.u8.wrap (n.fdiv (2 ^ (8 * i))))
def lowA (xs : List V) (n : Int) : Nat → List V
  | 0 => xs
  | i + 1 => lowA xs n i ++ [lowV n i]
def lowB (n : Int) (w : Nat) : List V := lowA [] n w
theorem lowA_eq (xs : List V) (n : Int) : ∀ w, lowA xs n w = xs ++ lowB n w
  | 0 => by simp [lowA, lowB]
  | w + 1 => by
    have := lowA_eq xs n w
    simp only [lowA, lowB] at *
    rw [this, List.append_assoc]
theorem lowB_length (n : Int) : ∀ w, (lowB n w).length = w
  | 0 => rfl
  | w + 1 => by
    have := lowB_length n w
    simp only [lowB, lowA] at *
    simp [this]
theorem lowB_kinds (n : Int) : ∀ w, kinds .u8 (lowB n w) = true
  | 0 => rfl
  | w + 1 => by
    have := lowB_kinds n w
    simp only [lowB, lowA] at *
    exact kinds_append this rfl
def cl111 : St → St := clean [1, 7, 12, 13] [23]
def ls0 (n w : Int) (ys : List V) : St := ⟨[(1, .int .u64 n), (7, .slc 1 ys .tight), (12, .int .i64 w), (13, .int .i64 0)], []⟩
def lsT (n w : Int) (ys : List V) (m : Nat) (i : Int) : St := ⟨[(1, .int .u64 n), (7, .slc 1 ys (.tok (.loc 23 0) 0)), (12, .int .i64 w), (13, .int .i64 i)], [(.loc 23 0, .tok m)]⟩
def lsX (n w : Int) (ys : List V) (m : Nat) : St := ⟨(14, .bool (decide (w < w))) :: (lsT n w ys m w).tm, (lsT n w ys m w).st⟩
theorem lb0 (n w : Int) (ys : List V) : bodyP C51 F15 cl111 b111_0 (ls0 n w ys) [.b true, .e false] =
    some
  (St.mk
      [((1 : Nat), V.int IntKind.u64 n),
        ((7 : Nat),
          V.slc (1 : Nat) (ys ++ [V.int IntKind.u8 (IntKind.wrap IntKind.u8 (Int.fdiv n (1 : Int)))])
            (Own.tok (Key.loc (23 : Nat) (0 : Nat)) (0 : Nat))),
        ((12 : Nat), V.int IntKind.i64 w), ((13 : Nat), V.int IntKind.i64 (1 : Int))]
      [(Key.loc (23 : Nat) (0 : Nat), Obj.tok (List.length ys + (1 : Nat)))],
    [decide ((0 : Int) < w) = true, (List.length ys + (1 : Nat)) * (1 : Nat) ≤ (1099511627776 : Nat),
      List.length ys + (1 : Nat) ≤ (1099511627776 : Nat), false = false]) := by kernel_rfl
theorem lb1 (n w : Int) (ys : List V) (m : Nat) : bodyP C51 F15 cl111 b111_0 (lsT n w ys m 1) [.b true, .e false] =
    some
  (St.mk
      [((1 : Nat), V.int IntKind.u64 n),
        ((7 : Nat),
          V.slc (1 : Nat) (ys ++ [V.int IntKind.u8 (IntKind.wrap IntKind.u8 (Int.fdiv n (256 : Int)))])
            (Own.tok (Key.loc (23 : Nat) (0 : Nat)) (0 : Nat))),
        ((12 : Nat), V.int IntKind.i64 w), ((13 : Nat), V.int IntKind.i64 (2 : Int))]
      [(Key.loc (23 : Nat) (0 : Nat), Obj.tok (m + (1 : Nat)))],
    [decide ((1 : Int) < w) = true, (List.length ys + (1 : Nat)) * (1 : Nat) ≤ (1099511627776 : Nat),
      List.length ys + (1 : Nat) ≤ (1099511627776 : Nat), false = false, m = (0 : Nat) + List.length ys]) := by kernel_rfl
theorem lb2 (n w : Int) (ys : List V) (m : Nat) : bodyP C51 F15 cl111 b111_0 (lsT n w ys m 2) [.b true, .e false] =
    some
  (St.mk
      [((1 : Nat), V.int IntKind.u64 n),
        ((7 : Nat),
          V.slc (1 : Nat) (ys ++ [V.int IntKind.u8 (IntKind.wrap IntKind.u8 (Int.fdiv n (65536 : Int)))])
            (Own.tok (Key.loc (23 : Nat) (0 : Nat)) (0 : Nat))),
        ((12 : Nat), V.int IntKind.i64 w), ((13 : Nat), V.int IntKind.i64 (3 : Int))]
      [(Key.loc (23 : Nat) (0 : Nat), Obj.tok (m + (1 : Nat)))],
    [decide ((2 : Int) < w) = true, (List.length ys + (1 : Nat)) * (1 : Nat) ≤ (1099511627776 : Nat),
      List.length ys + (1 : Nat) ≤ (1099511627776 : Nat), false = false, m = (0 : Nat) + List.length ys]) := by kernel_rfl
theorem lb3 (n w : Int) (ys : List V) (m : Nat) : bodyP C51 F15 cl111 b111_0 (lsT n w ys m 3) [.b true, .e false] =
    some
  (St.mk
      [((1 : Nat), V.int IntKind.u64 n),
        ((7 : Nat),
          V.slc (1 : Nat) (ys ++ [V.int IntKind.u8 (IntKind.wrap IntKind.u8 (Int.fdiv n (16777216 : Int)))])
            (Own.tok (Key.loc (23 : Nat) (0 : Nat)) (0 : Nat))),
        ((12 : Nat), V.int IntKind.i64 w), ((13 : Nat), V.int IntKind.i64 (4 : Int))]
      [(Key.loc (23 : Nat) (0 : Nat), Obj.tok (m + (1 : Nat)))],
    [decide ((3 : Int) < w) = true, (List.length ys + (1 : Nat)) * (1 : Nat) ≤ (1099511627776 : Nat),
      List.length ys + (1 : Nat) ≤ (1099511627776 : Nat), false = false, m = (0 : Nat) + List.length ys]) := by kernel_rfl
theorem lb4 (n w : Int) (ys : List V) (m : Nat) : bodyP C51 F15 cl111 b111_0 (lsT n w ys m 4) [.b true, .e false] =
    some
  (St.mk
      [((1 : Nat), V.int IntKind.u64 n),
        ((7 : Nat),
          V.slc (1 : Nat) (ys ++ [V.int IntKind.u8 (IntKind.wrap IntKind.u8 (Int.fdiv n (4294967296 : Int)))])
            (Own.tok (Key.loc (23 : Nat) (0 : Nat)) (0 : Nat))),
        ((12 : Nat), V.int IntKind.i64 w), ((13 : Nat), V.int IntKind.i64 (5 : Int))]
      [(Key.loc (23 : Nat) (0 : Nat), Obj.tok (m + (1 : Nat)))],
    [decide ((4 : Int) < w) = true, (List.length ys + (1 : Nat)) * (1 : Nat) ≤ (1099511627776 : Nat),
      List.length ys + (1 : Nat) ≤ (1099511627776 : Nat), false = false, m = (0 : Nat) + List.length ys]) := by kernel_rfl
theorem lb5 (n w : Int) (ys : List V) (m : Nat) : bodyP C51 F15 cl111 b111_0 (lsT n w ys m 5) [.b true, .e false] =
    some
  (St.mk
      [((1 : Nat), V.int IntKind.u64 n),
        ((7 : Nat),
          V.slc (1 : Nat) (ys ++ [V.int IntKind.u8 (IntKind.wrap IntKind.u8 (Int.fdiv n (1099511627776 : Int)))])
            (Own.tok (Key.loc (23 : Nat) (0 : Nat)) (0 : Nat))),
        ((12 : Nat), V.int IntKind.i64 w), ((13 : Nat), V.int IntKind.i64 (6 : Int))]
      [(Key.loc (23 : Nat) (0 : Nat), Obj.tok (m + (1 : Nat)))],
    [decide ((5 : Int) < w) = true, (List.length ys + (1 : Nat)) * (1 : Nat) ≤ (1099511627776 : Nat),
      List.length ys + (1 : Nat) ≤ (1099511627776 : Nat), false = false, m = (0 : Nat) + List.length ys]) := by kernel_rfl
theorem lb6 (n w : Int) (ys : List V) (m : Nat) : bodyP C51 F15 cl111 b111_0 (lsT n w ys m 6) [.b true, .e false] =
    some
  (St.mk
      [((1 : Nat), V.int IntKind.u64 n),
        ((7 : Nat),
          V.slc (1 : Nat) (ys ++ [V.int IntKind.u8 (IntKind.wrap IntKind.u8 (Int.fdiv n (281474976710656 : Int)))])
            (Own.tok (Key.loc (23 : Nat) (0 : Nat)) (0 : Nat))),
        ((12 : Nat), V.int IntKind.i64 w), ((13 : Nat), V.int IntKind.i64 (7 : Int))]
      [(Key.loc (23 : Nat) (0 : Nat), Obj.tok (m + (1 : Nat)))],
    [decide ((6 : Int) < w) = true, (List.length ys + (1 : Nat)) * (1 : Nat) ≤ (1099511627776 : Nat),
      List.length ys + (1 : Nat) ≤ (1099511627776 : Nat), false = false, m = (0 : Nat) + List.length ys]) := by kernel_rfl
theorem lb7 (n w : Int) (ys : List V) (m : Nat) : bodyP C51 F15 cl111 b111_0 (lsT n w ys m 7) [.b true, .e false] =
    some
  (St.mk
      [((1 : Nat), V.int IntKind.u64 n),
        ((7 : Nat),
          V.slc (1 : Nat) (ys ++ [V.int IntKind.u8 (IntKind.wrap IntKind.u8 (Int.fdiv n (72057594037927936 : Int)))])
            (Own.tok (Key.loc (23 : Nat) (0 : Nat)) (0 : Nat))),
        ((12 : Nat), V.int IntKind.i64 w), ((13 : Nat), V.int IntKind.i64 (8 : Int))]
      [(Key.loc (23 : Nat) (0 : Nat), Obj.tok (m + (1 : Nat)))],
    [decide ((7 : Int) < w) = true, (List.length ys + (1 : Nat)) * (1 : Nat) ≤ (1099511627776 : Nat),
      List.length ys + (1 : Nat) ≤ (1099511627776 : Nat), false = false, m = (0 : Nat) + List.length ys]) := by kernel_rfl
theorem lbx (n w : Int) (ys : List V) (m : Nat) : exitP C51 F15 b111_0 (lsT n w ys m w) [.b false] =
    some
  ((Ex.exit (0 : Nat),
      St.mk
        [((14 : Nat), V.bool (decide (w < w))), ((1 : Nat), V.int IntKind.u64 n),
          ((7 : Nat), V.slc (1 : Nat) ys (Own.tok (Key.loc (23 : Nat) (0 : Nat)) (0 : Nat))),
          ((12 : Nat), V.int IntKind.i64 w), ((13 : Nat), V.int IntKind.i64 w)]
        [(Key.loc (23 : Nat) (0 : Nat), Obj.tok m)]),
    [decide (w < w) = false]) := by kernel_rfl
theorem lbr (xs ys : List V) (n w : Int) (m : Nat) : a111.runP F15 C51 [.slc 1 xs .none, .int .u64 n, .int .i64 w] [] [.call (.slc 1 xs .none) [] [], .call (.slc 1 xs .tight) [] [], .loop (.exit 0) (lsX n w ys m)] =
    some
  ((V.slc (1 : Nat) ys (Own.tok (Key.arg (0 : Nat)) (0 : Nat)), [], [Obj.tok m]),
    [callIs C51 (52 : Nat) [V.slc (1 : Nat) xs Own.none] [] (V.slc (1 : Nat) xs Own.none) [] [],
      callIs C51 (51 : Nat) [V.slc (1 : Nat) xs Own.none] [] (V.slc (1 : Nat) xs Own.tight) [] [],
      evalCode C51 F15 (ACode.loop [(1 : Nat), (7 : Nat), (12 : Nat), (13 : Nat)] [(23 : Nat)] b111_0)
          (St.mk
            [((13 : Nat), V.int IntKind.i64 (0 : Int)), ((12 : Nat), V.int IntKind.i64 w),
              ((7 : Nat), V.slc (1 : Nat) xs Own.tight), ((11 : Nat), V.slc (1 : Nat) xs Own.tight),
              ((10 : Nat), V.slc (1 : Nat) xs Own.none), ((9 : Nat), V.slc (1 : Nat) xs Own.none),
              ((6 : Nat), V.slc (1 : Nat) [] Own.tight), ((0 : Nat), V.slc (1 : Nat) xs Own.none),
              ((1 : Nat), V.int IntKind.u64 n), ((2 : Nat), V.int IntKind.i64 w)]
            []) =
        some
          (Ex.exit (0 : Nat),
            St.mk
              [((14 : Nat), V.bool (decide (w < w))), ((1 : Nat), V.int IntKind.u64 n),
                ((7 : Nat), V.slc (1 : Nat) ys (Own.tok (Key.loc (23 : Nat) (0 : Nat)) (0 : Nat))),
                ((12 : Nat), V.int IntKind.i64 w), ((13 : Nat), V.int IntKind.i64 w)]
              [(Key.loc (23 : Nat) (0 : Nat), Obj.tok m)])]) := by kernel_rfl
def lsH (n w : Int) (xs : List V) : Nat → St
  | 0 => ls0 n w xs
  | i + 1 => lsT n w (lowA xs n (i + 1)) (xs.length + (i + 1)) ((i + 1 : Nat) : Int)
theorem lowA_length (xs : List V) (n : Int) (w : Nat) : (lowA xs n w).length = xs.length + w := by rw [lowA_eq, List.length_append, lowB_length]
theorem low_loop (xs : List V) (n : Int) (w : Nat) (hw : w = 1 ∨ w = 2 ∨ w = 4 ∨ w = 8) (hx : xs.length ≤ 2 * lim) {s0 : St} (h0 : cl111 s0 = ls0 n w xs) :
    evalCode C51 F15 (.loop [1, 7, 12, 13] [23] b111_0) s0 = some (.exit 0, lsX n w (lowA xs n w) (xs.length + w)) := by
  have hl : ∀ i, i < 8 → (lowA xs n i).length + 1 ≤ 1099511627776 := fun i hi => by rw [lowA_length]; unfold lim at hx; omega
  have hmul : ∀ i, i < 8 → ((lowA xs n i).length + 1) * 1 ≤ 1099511627776 := fun i hi => by rw [Nat.mul_one]; exact hl i hi
  refine ev_loop (lsH n w xs) w h0 (fun i hi => ?_) ?_ (by simp) (by unfold F15; omega)
  · have hd : decide ((i : Int) < (w : Int)) = true := by simp; omega
    have hi8 : i < 8 := by omega
    have ht : ∀ j, i = j + 1 → xs.length + (j + 1) = 0 + (lowA xs n (j + 1)).length := fun j _ => by rw [lowA_length]; omega
    have h8 : i = 0 ∨ i = 1 ∨ i = 2 ∨ i = 3 ∨ i = 4 ∨ i = 5 ∨ i = 6 ∨ i = 7 := by omega
    rcases h8 with rfl | rfl | rfl | rfl | rfl | rfl | rfl | rfl
    · exact bodyP_sound (lb0 n w xs) ⟨hd, hmul 0 hi8, hl 0 hi8, rfl, trivial⟩
    · exact bodyP_sound (lb1 n w (lowA xs n 1) (xs.length + 1)) ⟨hd, hmul 1 hi8, hl 1 hi8, rfl, ht 0 rfl, trivial⟩
    · exact bodyP_sound (lb2 n w (lowA xs n 2) (xs.length + 2)) ⟨hd, hmul 2 hi8, hl 2 hi8, rfl, ht 1 rfl, trivial⟩
    · exact bodyP_sound (lb3 n w (lowA xs n 3) (xs.length + 3)) ⟨hd, hmul 3 hi8, hl 3 hi8, rfl, ht 2 rfl, trivial⟩
    · exact bodyP_sound (lb4 n w (lowA xs n 4) (xs.length + 4)) ⟨hd, hmul 4 hi8, hl 4 hi8, rfl, ht 3 rfl, trivial⟩
    · exact bodyP_sound (lb5 n w (lowA xs n 5) (xs.length + 5)) ⟨hd, hmul 5 hi8, hl 5 hi8, rfl, ht 4 rfl, trivial⟩
    · exact bodyP_sound (lb6 n w (lowA xs n 6) (xs.length + 6)) ⟨hd, hmul 6 hi8, hl 6 hi8, rfl, ht 5 rfl, trivial⟩
    · exact bodyP_sound (lb7 n w (lowA xs n 7) (xs.length + 7)) ⟨hd, hmul 7 hi8, hl 7 hi8, rfl, ht 6 rfl, trivial⟩
  · have hw0 : lsH n w xs w = lsT n w (lowA xs n w) (xs.length + w) w := by
      rcases hw with rfl | rfl | rfl | rfl <;> rfl
    rw [hw0]
    exact exitP_sound (lbx n w (lowA xs n w) (xs.length + w)) ⟨by simp, trivial⟩
/-! ### the contracts -/
def tokR (ys : List V) : Option (V × List Ev.Obj × List Ev.Obj) := some (.slc 1 ys (.tok (.arg 0) 0), [], [.tok ys.length])
def c111 : Contract := fun args objs =>
  match args, objs with
  | [.slc 1 xs .none, .int .u64 n, .int .i64 w], [] => if xs.length ≤ lim ∧ (w = 1 ∨ w = 2 ∨ w = 4 ∨ w = 8) then tokR (xs ++ lowB n w.toNat) else none
  | _, _ => none
theorem h111' : Holds Tryd.prog G 111 c111 := (fn_holds s51 hM F15 Tryd.func111 p111 o111).less fun args objs x h => by
  unfold c111 at h
  split at h
  · rename_i xs n w
    split at h
    · rename_i hc
      obtain ⟨hx, hw⟩ := hc
      obtain ⟨k, rfl⟩ : ∃ k : Nat, w = (k : Int) := ⟨w.toNat, by omega⟩
      have hk : k = 1 ∨ k = 2 ∨ k = 4 ∨ k = 8 := by omega
      rw [← h]
      have e1 : c52 [.slc 1 xs .none] [] = some (.slc 1 xs .none, [], []) := by simp only [c52, if_pos hx]
      have := runP_sound (lbr xs (lowA xs n k) n k (xs.length + k)) ⟨e1, rfl, low_loop xs n k hk (by omega) rfl, trivial⟩
      rw [this]
      simp only [tokR, Int.toNat_natCast, ← lowA_eq, lowA_length]
    · cases h
  · cases h
def C111 : FuncId → Option Contract := addC noC 111 c111
theorem s111 : Sound Tryd.prog G C111 := sound_noC.add Tryd.func111 (by kernel_rfl) h111'
theorem c111_eq {xs : List V} {n : Int} {w : Nat} (hx : xs.length ≤ lim) (hw : w = 1 ∨ w = 2 ∨ w = 4 ∨ w = 8) : c111 [.slc 1 xs .none, .int .u64 n, .int .i64 w] [] = tokR (xs ++ lowB n w) := by
  simp only [c111]
  rw [if_pos ⟨hx, by omega⟩, Int.toNat_natCast]
theorem len_app_low (xs : List V) (n : Int) (w : Nat) : (xs ++ lowB n w).length = xs.length + w := by rw [List.length_append, lowB_length]
theorem smr (xs ys : List V) (n : Int) (m : Nat) (C : FuncId → Option Contract) : a69.runP F15 C [.slc 1 xs .none, .int .u32 n] [] [.call (.slc 1 ys (.tok (.arg 0) 0)) [] [.tok m]] =
    some
  ((V.slc (1 : Nat) ys (Own.tok (Key.arg (0 : Nat)) (0 : Nat)), [], [Obj.tok m]),
    [callIs C (111 : Nat)
        [V.slc (1 : Nat) xs Own.none, V.int IntKind.u64 (IntKind.wrap IntKind.u64 n), V.int IntKind.i64 (4 : Int)] []
        (V.slc (1 : Nat) ys (Own.tok (Key.arg (0 : Nat)) (0 : Nat))) [] [Obj.tok m]]) := by kernel_rfl
theorem bgr (xs ys : List V) (n : Int) (m : Nat) (C : FuncId → Option Contract) : a136.runP F15 C [.slc 1 xs .none, .int .u64 n] [] [.call (.slc 1 ys (.tok (.arg 0) 0)) [] [.tok m]] =
    some
  ((V.slc (1 : Nat) ys (Own.tok (Key.arg (0 : Nat)) (0 : Nat)), [], [Obj.tok m]),
    [callIs C (111 : Nat) [V.slc (1 : Nat) xs Own.none, V.int IntKind.u64 n, V.int IntKind.i64 (8 : Int)] []
        (V.slc (1 : Nat) ys (Own.tok (Key.arg (0 : Nat)) (0 : Nat))) [] [Obj.tok m]]) := by kernel_rfl
theorem co1 (xs ys : List V) (n : Int) (m : Nat) (C : FuncId → Option Contract) : a68.runP F15 C [.slc 1 xs .none, .int .i64 n] [] [.b true, .call (.slc 1 ys (.tok (.arg 0) 0)) [] [.tok m]] =
    some
  ((V.slc (1 : Nat) ys (Own.tok (Key.arg (0 : Nat)) (0 : Nat)), [], [Obj.tok m]),
    [decide
          (IntKind.wrap IntKind.u64
              (if (4294967295 : Int) < if (0 : Int) > n then (0 : Int) else n then (4294967295 : Int)
              else if (0 : Int) > n then (0 : Int) else n) <
            (253 : Int)) =
        true,
      callIs C (111 : Nat)
        [V.slc (1 : Nat) xs Own.none,
          V.int IntKind.u64
            (IntKind.wrap IntKind.u64
              (if (4294967295 : Int) < if (0 : Int) > n then (0 : Int) else n then (4294967295 : Int)
              else if (0 : Int) > n then (0 : Int) else n)),
          V.int IntKind.i64 (1 : Int)]
        [] (V.slc (1 : Nat) ys (Own.tok (Key.arg (0 : Nat)) (0 : Nat))) [] [Obj.tok m]]) := by kernel_rfl
theorem co2 (xs ys zs : List V) (n : Int) (m k : Nat) (C : FuncId → Option Contract) : a68.runP F15 C [.slc 1 xs .none, .int .i64 n] [] [.b false, .b true, .call (.slc 1 ys (.tok (.arg 0) 0)) [] [.tok m], .call (.slc 1 zs (.tok (.arg 0) 0)) [] [.tok k]] =
    some
  ((V.slc (1 : Nat) zs (Own.tok (Key.arg (0 : Nat)) (0 : Nat)), [], [Obj.tok k]),
    [decide
          (IntKind.wrap IntKind.u64
              (if (4294967295 : Int) < if (0 : Int) > n then (0 : Int) else n then (4294967295 : Int)
              else if (0 : Int) > n then (0 : Int) else n) <
            (253 : Int)) =
        false,
      decide
          (IntKind.wrap IntKind.u64
              (if (4294967295 : Int) < if (0 : Int) > n then (0 : Int) else n then (4294967295 : Int)
              else if (0 : Int) > n then (0 : Int) else n) <
            (65536 : Int)) =
        true,
      callIs C (111 : Nat) [V.slc (1 : Nat) xs Own.none, V.int IntKind.u64 (253 : Int), V.int IntKind.i64 (1 : Int)] []
        (V.slc (1 : Nat) ys (Own.tok (Key.arg (0 : Nat)) (0 : Nat))) [] [Obj.tok m],
      callIs C (111 : Nat)
        [V.slc (1 : Nat) ys Own.none,
          V.int IntKind.u64
            (IntKind.wrap IntKind.u64
              (if (4294967295 : Int) < if (0 : Int) > n then (0 : Int) else n then (4294967295 : Int)
              else if (0 : Int) > n then (0 : Int) else n)),
          V.int IntKind.i64 (2 : Int)]
        [] (V.slc (1 : Nat) zs (Own.tok (Key.arg (0 : Nat)) (0 : Nat))) [] [Obj.tok k]]) := by kernel_rfl
theorem ctr (xs ys zs : List V) (m : Nat) (C : FuncId → Option Contract) : a105.runP F15 C [.slc 1 xs .none, .slc 1 zs .none] [] [.call (.slc 1 ys (.tok (.arg 0) 0)) [] [.tok m], .e false] =
    some
  ((V.slc (1 : Nat) (ys ++ zs) (Own.tok (Key.arg (0 : Nat)) (0 : Nat)), [], [Obj.tok (m + List.length zs)]),
    [callIs C (68 : Nat) [V.slc (1 : Nat) xs Own.none, V.int IntKind.i64 (↑(List.length zs) : Int)] []
        (V.slc (1 : Nat) ys (Own.tok (Key.arg (0 : Nat)) (0 : Nat))) [] [Obj.tok m],
      (List.length ys + List.length zs) * (1 : Nat) ≤ (1099511627776 : Nat),
      List.length ys + List.length zs ≤ (1099511627776 : Nat), List.isEmpty zs = false, m = (0 : Nat) + List.length ys]) := by kernel_rfl
theorem ctr0 (xs ys : List V) (m : Nat) (C : FuncId → Option Contract) : a105.runP F15 C [.slc 1 xs .none, .slc 1 [] .none] [] [.call (.slc 1 ys (.tok (.arg 0) 0)) [] [.tok m], .e true] =
    some
  ((V.slc (1 : Nat) ys (Own.tok (Key.arg (0 : Nat)) (0 : Nat)), [], [Obj.tok m]),
    [callIs C (68 : Nat) [V.slc (1 : Nat) xs Own.none, V.int IntKind.i64 (0 : Int)] []
        (V.slc (1 : Nat) ys (Own.tok (Key.arg (0 : Nat)) (0 : Nat))) [] [Obj.tok m],
      (List.length ys + (0 : Nat)) * (1 : Nat) ≤ (1099511627776 : Nat),
      List.length ys + (0 : Nat) ≤ (1099511627776 : Nat), true = true]) := by kernel_rfl
def lam : Nat := 4000000000
def sm (n : Int) : List V := lowB (IntKind.u64.wrap n) 4
def bg (n : Int) : List V := lowB n 8
def countB (n : Int) : List V := if n < 253 then lowB n 1 else lowB 253 1 ++ lowB n 2
def countedB (zs : List V) : List V := countB zs.length ++ zs
theorem countB_length (n : Int) : (countB n).length = 1 ∨ (countB n).length = 3 := by
  unfold countB
  split
  · exact .inl (lowB_length _ _)
  · exact .inr (by rw [List.length_append, lowB_length, lowB_length])
theorem countB_le (n : Int) : 1 ≤ (countB n).length ∧ (countB n).length ≤ 3 := by rcases countB_length n with h | h <;> omega
theorem countB_kinds (n : Int) : kinds .u8 (countB n) = true := by
  unfold countB
  split
  · exact lowB_kinds _ _
  · exact kinds_append (lowB_kinds _ _) (lowB_kinds _ _)
theorem wrapU64 (n : Int) (h0 : 0 ≤ n) (h1 : n < 18446744073709551616) : IntKind.u64.wrap n = n := by
  have : IntKind.u64.wrap n = n % 18446744073709551616 := by simp [IntKind.wrap, IntKind.bits, IntKind.signed]
  rw [this, Int.emod_eq_of_lt h0 h1]
theorem kept_eq {n : Int} (h0 : 0 ≤ n) (h1 : n < 65536) : IntKind.wrap IntKind.u64 (if (4294967295 : Int) < if (0 : Int) > n then (0 : Int) else n then (4294967295 : Int) else if (0 : Int) > n then (0 : Int) else n) = n := by
  rw [if_neg (show ¬ (0 : Int) > n by omega), if_neg (by omega)]
  exact wrapU64 n h0 (by omega)
theorem c111_tok {xs : List V} {n : Int} {w : Nat} (hx : xs.length ≤ lim) (hw : w = 1 ∨ w = 2 ∨ w = 4 ∨ w = 8) : callIs C111 111 [.slc 1 xs .none, .int .u64 n, .int .i64 w] [] (.slc 1 (xs ++ lowB n w) (.tok (.arg 0) 0)) [] [.tok (xs ++ lowB n w).length] :=
  c111_eq hx hw
def c69 : Contract := fun args objs =>
  match args, objs with
  | [.slc 1 xs .none, .int .u32 n], [] => if xs.length ≤ lam then tokR (xs ++ sm n) else none
  | _, _ => none
theorem h69' : Holds Tryd.prog G 69 c69 := (fn_holds s111 hM F15 Tryd.func69 p69 o69).less fun args objs x h => by
  unfold c69 at h
  split at h
  · rename_i xs n
    split at h
    · rename_i hc
      rw [← h]
      exact runP_sound (smr xs _ n _ C111) ⟨c111_tok (w := 4) (by unfold lam at hc; unfold lim; omega) (by simp), trivial⟩
    · cases h
  · cases h
def c136 : Contract := fun args objs =>
  match args, objs with
  | [.slc 1 xs .none, .int .u64 n], [] => if xs.length ≤ lam then tokR (xs ++ bg n) else none
  | _, _ => none
theorem h136' : Holds Tryd.prog G 136 c136 := (fn_holds s111 hM F15 Tryd.func136 p136 o136).less fun args objs x h => by
  unfold c136 at h
  split at h
  · rename_i xs n
    split at h
    · rename_i hc
      rw [← h]
      exact runP_sound (bgr xs _ n _ C111) ⟨c111_tok (w := 8) (by unfold lam at hc; unfold lim; omega) (by simp), trivial⟩
    · cases h
  · cases h
def c68 : Contract := fun args objs =>
  match args, objs with
  | [.slc 1 xs .none, .int .i64 n], [] => if xs.length ≤ lam ∧ 0 ≤ n ∧ n < 65536 then tokR (xs ++ countB n) else none
  | _, _ => none
theorem h68' : Holds Tryd.prog G 68 c68 := (fn_holds s111 hM F15 Tryd.func68 p68 o68).less fun args objs x h => by
  unfold c68 at h
  split at h
  · rename_i xs n
    split at h
    · rename_i hc
      obtain ⟨hx, h0, h1⟩ := hc
      have hk := kept_eq h0 h1
      rw [← h]
      have hxl : xs.length ≤ lim := by unfold lam at hx; unfold lim; omega
      by_cases hs : n < 253
      · have e : countB n = lowB n 1 := by rw [countB, if_pos hs]
        rw [e]
        exact runP_sound (co1 xs _ n _ C111) ⟨by rw [hk]; simpa using hs, by rw [hk]; exact c111_tok (w := 1) hxl (by simp), trivial⟩
      · have e : xs ++ countB n = xs ++ lowB 253 1 ++ lowB n 2 := by rw [countB, if_neg hs, List.append_assoc]
        rw [e]
        exact runP_sound (co2 xs _ _ n _ _ C111) ⟨by rw [hk]; simpa using hs, by rw [hk]; simpa using h1, c111_tok (w := 1) hxl (by simp), by rw [hk]; exact c111_tok (w := 2) (by rw [len_app_low]; unfold lam at hx; unfold lim; omega) (by simp), trivial⟩
    · cases h
  · cases h
def C68 : FuncId → Option Contract := addC C111 68 c68
theorem s68 : Sound Tryd.prog G C68 := s111.add Tryd.func68 (by kernel_rfl) h68'
def c105 : Contract := fun args objs =>
  match args, objs with
  | [.slc 1 xs .none, .slc 1 zs .none], [] => if xs.length ≤ lam ∧ zs.length < 65536 then tokR (xs ++ countedB zs) else none
  | _, _ => none
theorem h105' : Holds Tryd.prog G 105 c105 := (fn_holds s68 hM F15 Tryd.func105 p105 o105).less fun args objs x h => by
  unfold c105 at h
  split at h
  · rename_i xs zs
    split at h
    · rename_i hc
      obtain ⟨hx, hz⟩ := hc
      rw [← h]
      have hb := countB_le (zs.length : Int)
      have hl : (xs ++ countB zs.length).length ≤ xs.length + 3 := by rw [List.length_append]; omega
      have e1 : callIs C68 68 [.slc 1 xs .none, .int .i64 zs.length] [] (.slc 1 (xs ++ countB zs.length) (.tok (.arg 0) 0)) [] [.tok (xs ++ countB zs.length).length] := by
        show c68 _ _ = _
        simp only [c68]
        rw [if_pos ⟨hx, by omega, by omega⟩]
        rfl
      unfold lam at hx
      cases zs with
      | nil =>
        have e : xs ++ countedB [] = xs ++ countB 0 := by simp [countedB]
        rw [e]
        exact runP_sound (ctr0 xs _ _ C68) ⟨e1, by rw [Nat.mul_one]; simp only [List.length_nil] at hl; simp only [Int.natCast_zero, Nat.add_zero]; exact Nat.le_trans hl (by omega), by simp only [List.length_nil] at hl; exact Nat.le_trans hl (by omega), rfl, trivial⟩
      | cons z r =>
        have e : xs ++ countedB (z :: r) = xs ++ countB (z :: r).length ++ (z :: r) := by rw [countedB, List.append_assoc]
        rw [e, runP_sound (ctr xs _ (z :: r) _ C68) ⟨e1, by rw [Nat.mul_one]; omega, by omega, rfl, by rw [Nat.zero_add], trivial⟩]
        simp only [tokR, List.length_append]
    · cases h
  · cases h
end Go.Proofs.YtiiohfojejfolaaDoor
