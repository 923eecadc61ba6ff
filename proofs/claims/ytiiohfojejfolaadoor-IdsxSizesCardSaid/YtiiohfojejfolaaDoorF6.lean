/-
  What is proved: the document's numbers, counts, and a transaction's bytes: the same as the program's. Conditions: none.
-/
import Derived.Test.YtiiohfojejfolaaDoorF5
set_option linter.unusedVariables false
set_option linter.unusedSimpArgs false
set_option maxRecDepth 100000
set_option maxHeartbeats 1000000
namespace Go.Proofs.YtiiohfojejfolaaDoor
open Go Go.Ev Go.Proofs

theorem q61 (xs : List V) (n : Int) (C : FuncId → Option Contract) : a61.runP F15 C [.slc 1 xs .none, .int .u32 n] [] [.e false, .e false] =
    some
  ((V.slc (1 : Nat)
        ([] ++ xs ++
          [V.int IntKind.u8 (IntKind.wrap IntKind.u8 n),
            V.int IntKind.u8 (IntKind.wrap IntKind.u8 (Int.fdiv n (256 : Int))),
            V.int IntKind.u8 (IntKind.wrap IntKind.u8 (Int.fdiv n (65536 : Int))),
            V.int IntKind.u8 (IntKind.wrap IntKind.u8 (Int.fdiv n (16777216 : Int)))])
        (Own.tok (Key.arg (0 : Nat)) (0 : Nat)),
      [], [Obj.tok ((0 : Nat) + List.length xs + (4 : Nat))]),
    [((0 : Nat) + List.length xs) * (1 : Nat) ≤ (1099511627776 : Nat),
      (0 : Nat) + List.length xs ≤ (1099511627776 : Nat), List.isEmpty xs = false,
      (List.length ([] ++ xs) + (4 : Nat)) * (1 : Nat) ≤ (1099511627776 : Nat),
      List.length ([] ++ xs) + (4 : Nat) ≤ (1099511627776 : Nat), false = false,
      (0 : Nat) + List.length xs = (0 : Nat) + List.length ([] ++ xs)]) := by kernel_rfl
theorem q61e (n : Int) (C : FuncId → Option Contract) : a61.runP F15 C [.slc 1 [] .none, .int .u32 n] [] [.e true, .e false] =
    some
  ((V.slc (1 : Nat)
        [V.int IntKind.u8 (IntKind.wrap IntKind.u8 n),
          V.int IntKind.u8 (IntKind.wrap IntKind.u8 (Int.fdiv n (256 : Int))),
          V.int IntKind.u8 (IntKind.wrap IntKind.u8 (Int.fdiv n (65536 : Int))),
          V.int IntKind.u8 (IntKind.wrap IntKind.u8 (Int.fdiv n (16777216 : Int)))]
        (Own.tok (Key.arg (0 : Nat)) (0 : Nat)),
      [], [Obj.tok (4 : Nat)]),
    [(0 : Nat) ≤ (1099511627776 : Nat), (0 : Nat) ≤ (1099511627776 : Nat), true = true,
      (4 : Nat) ≤ (1099511627776 : Nat), (4 : Nat) ≤ (1099511627776 : Nat), false = false]) := by kernel_rfl
theorem q107 (xs y1 y2 : List V) (n : Int) (C : FuncId → Option Contract) : a107.runP F15 C [.slc 1 xs .none, .int .u64 n] [] [.call (tk y1) [] [.tok y1.length], .call (tk y2) [] [.tok y2.length]] =
    some
  ((V.slc (1 : Nat) y2 (Own.tok (Key.arg (0 : Nat)) (0 : Nat)), [], [Obj.tok (List.length y2)]),
    [callIs C (61 : Nat) [V.slc (1 : Nat) xs Own.none, V.int IntKind.u32 (IntKind.wrap IntKind.u32 n)] [] (tk y1) []
        [Obj.tok (List.length y1)],
      callIs C (61 : Nat)
        [V.slc (1 : Nat) y1 Own.none, V.int IntKind.u32 (IntKind.wrap IntKind.u32 (Int.fdiv n (4294967296 : Int)))] []
        (tk y2) [] [Obj.tok (List.length y2)]]) := by kernel_rfl
theorem q65a (xs : List V) (n : Int) (C : FuncId → Option Contract) : a65.runP F15 C [.slc 1 xs .none, .int .i64 n] [] [.e false, .b true, .e false] =
    some
  ((V.slc (1 : Nat)
        ([] ++ xs ++
          [V.int IntKind.u8
              (IntKind.wrap IntKind.u8
                (if (4294967295 : Int) < if (0 : Int) > n then (0 : Int) else n then (4294967295 : Int)
                else if (0 : Int) > n then (0 : Int) else n))])
        (Own.tok (Key.arg (0 : Nat)) (0 : Nat)),
      [], [Obj.tok ((0 : Nat) + List.length xs + (1 : Nat))]),
    [((0 : Nat) + List.length xs) * (1 : Nat) ≤ (1099511627776 : Nat),
      (0 : Nat) + List.length xs ≤ (1099511627776 : Nat), List.isEmpty xs = false,
      decide
          ((if (4294967295 : Int) < if (0 : Int) > n then (0 : Int) else n then (4294967295 : Int)
            else if (0 : Int) > n then (0 : Int) else n) <
            (253 : Int)) =
        true,
      (List.length ([] ++ xs) + (1 : Nat)) * (1 : Nat) ≤ (1099511627776 : Nat),
      List.length ([] ++ xs) + (1 : Nat) ≤ (1099511627776 : Nat), false = false,
      (0 : Nat) + List.length xs = (0 : Nat) + List.length ([] ++ xs)]) := by kernel_rfl
theorem q65b (xs : List V) (n : Int) (C : FuncId → Option Contract) : a65.runP F15 C [.slc 1 xs .none, .int .i64 n] [] [.e false, .b false, .b true, .e false] =
    some
  ((V.slc (1 : Nat)
        ([] ++ xs ++
          [V.int IntKind.u8 (253 : Int),
            V.int IntKind.u8
              (IntKind.wrap IntKind.u8
                (if (4294967295 : Int) < if (0 : Int) > n then (0 : Int) else n then (4294967295 : Int)
                else if (0 : Int) > n then (0 : Int) else n)),
            V.int IntKind.u8
              (IntKind.wrap IntKind.u8
                (Int.fdiv
                  (if (4294967295 : Int) < if (0 : Int) > n then (0 : Int) else n then (4294967295 : Int)
                  else if (0 : Int) > n then (0 : Int) else n)
                  (256 : Int)))])
        (Own.tok (Key.arg (0 : Nat)) (0 : Nat)),
      [], [Obj.tok ((0 : Nat) + List.length xs + (3 : Nat))]),
    [((0 : Nat) + List.length xs) * (1 : Nat) ≤ (1099511627776 : Nat),
      (0 : Nat) + List.length xs ≤ (1099511627776 : Nat), List.isEmpty xs = false,
      decide
          ((if (4294967295 : Int) < if (0 : Int) > n then (0 : Int) else n then (4294967295 : Int)
            else if (0 : Int) > n then (0 : Int) else n) <
            (253 : Int)) =
        false,
      decide
          ((if (4294967295 : Int) < if (0 : Int) > n then (0 : Int) else n then (4294967295 : Int)
            else if (0 : Int) > n then (0 : Int) else n) ≤
            (65535 : Int)) =
        true,
      (List.length ([] ++ xs) + (3 : Nat)) * (1 : Nat) ≤ (1099511627776 : Nat),
      List.length ([] ++ xs) + (3 : Nat) ≤ (1099511627776 : Nat), false = false,
      (0 : Nat) + List.length xs = (0 : Nat) + List.length ([] ++ xs)]) := by kernel_rfl
theorem q65ae (n : Int) (C : FuncId → Option Contract) : a65.runP F15 C [.slc 1 [] .none, .int .i64 n] [] [.e true, .b true, .e false] =
    some
  ((V.slc (1 : Nat)
        [V.int IntKind.u8
            (IntKind.wrap IntKind.u8
              (if (4294967295 : Int) < if (0 : Int) > n then (0 : Int) else n then (4294967295 : Int)
              else if (0 : Int) > n then (0 : Int) else n))]
        (Own.tok (Key.arg (0 : Nat)) (0 : Nat)),
      [], [Obj.tok (1 : Nat)]),
    [(0 : Nat) ≤ (1099511627776 : Nat), (0 : Nat) ≤ (1099511627776 : Nat), true = true,
      decide
          ((if (4294967295 : Int) < if (0 : Int) > n then (0 : Int) else n then (4294967295 : Int)
            else if (0 : Int) > n then (0 : Int) else n) <
            (253 : Int)) =
        true,
      (1 : Nat) ≤ (1099511627776 : Nat), (1 : Nat) ≤ (1099511627776 : Nat), false = false]) := by kernel_rfl
theorem q65be (n : Int) (C : FuncId → Option Contract) : a65.runP F15 C [.slc 1 [] .none, .int .i64 n] [] [.e true, .b false, .b true, .e false] =
    some
  ((V.slc (1 : Nat)
        [V.int IntKind.u8 (253 : Int),
          V.int IntKind.u8
            (IntKind.wrap IntKind.u8
              (if (4294967295 : Int) < if (0 : Int) > n then (0 : Int) else n then (4294967295 : Int)
              else if (0 : Int) > n then (0 : Int) else n)),
          V.int IntKind.u8
            (IntKind.wrap IntKind.u8
              (Int.fdiv
                (if (4294967295 : Int) < if (0 : Int) > n then (0 : Int) else n then (4294967295 : Int)
                else if (0 : Int) > n then (0 : Int) else n)
                (256 : Int)))]
        (Own.tok (Key.arg (0 : Nat)) (0 : Nat)),
      [], [Obj.tok (3 : Nat)]),
    [(0 : Nat) ≤ (1099511627776 : Nat), (0 : Nat) ≤ (1099511627776 : Nat), true = true,
      decide
          ((if (4294967295 : Int) < if (0 : Int) > n then (0 : Int) else n then (4294967295 : Int)
            else if (0 : Int) > n then (0 : Int) else n) <
            (253 : Int)) =
        false,
      decide
          ((if (4294967295 : Int) < if (0 : Int) > n then (0 : Int) else n then (4294967295 : Int)
            else if (0 : Int) > n then (0 : Int) else n) ≤
            (65535 : Int)) =
        true,
      (3 : Nat) ≤ (1099511627776 : Nat), (3 : Nat) ≤ (1099511627776 : Nat), false = false]) := by kernel_rfl
theorem q106 (xs ys zs : List V) (m : Nat) (C : FuncId → Option Contract) : a106.runP F15 C [.slc 1 xs .none, .slc 1 zs .none] [] [.call (.slc 1 ys (.tok (.arg 0) 0)) [] [.tok m], .e false] =
    some
  ((V.slc (1 : Nat) (ys ++ zs) (Own.tok (Key.arg (0 : Nat)) (0 : Nat)), [], [Obj.tok (m + List.length zs)]),
    [callIs C (65 : Nat) [V.slc (1 : Nat) xs Own.none, V.int IntKind.i64 (↑(List.length zs) : Int)] []
        (V.slc (1 : Nat) ys (Own.tok (Key.arg (0 : Nat)) (0 : Nat))) [] [Obj.tok m],
      (List.length ys + List.length zs) * (1 : Nat) ≤ (1099511627776 : Nat),
      List.length ys + List.length zs ≤ (1099511627776 : Nat), List.isEmpty zs = false, m = (0 : Nat) + List.length ys]) := by kernel_rfl
theorem q106e (xs ys : List V) (m : Nat) (C : FuncId → Option Contract) : a106.runP F15 C [.slc 1 xs .none, .slc 1 [] .none] [] [.call (.slc 1 ys (.tok (.arg 0) 0)) [] [.tok m], .e true] =
    some
  ((V.slc (1 : Nat) ys (Own.tok (Key.arg (0 : Nat)) (0 : Nat)), [], [Obj.tok m]),
    [callIs C (65 : Nat) [V.slc (1 : Nat) xs Own.none, V.int IntKind.i64 (0 : Int)] []
        (V.slc (1 : Nat) ys (Own.tok (Key.arg (0 : Nat)) (0 : Nat))) [] [Obj.tok m],
      (List.length ys + (0 : Nat)) * (1 : Nat) ≤ (1099511627776 : Nat),
      List.length ys + (0 : Nat) ≤ (1099511627776 : Nat), true = true]) := by kernel_rfl
theorem wrapU8 (n : Int) : IntKind.u8.wrap n = n % 256 := by simp [IntKind.wrap, IntKind.bits, IntKind.signed]
theorem sm_eq {n : Int} (h0 : 0 ≤ n) (h1 : n < 4294967296) : sm n = [.int .u8 (IntKind.u8.wrap n), .int .u8 (IntKind.u8.wrap (Int.fdiv n 256)), .int .u8 (IntKind.u8.wrap (Int.fdiv n 65536)), .int .u8 (IntKind.u8.wrap (Int.fdiv n 16777216))] := by
  unfold sm
  rw [wrapU64 n h0 (by omega)]
  show [lowV n 0, lowV n 1, lowV n 2, lowV n 3] = _
  simp only [lowV]
  rw [show (2 : Int) ^ (8 * 0) = 1 from rfl, Int.fdiv_one]
  rfl
theorem bg_eq {n : Int} (h0 : 0 ≤ n) (h1 : n < 18446744073709551616) : sm (IntKind.u32.wrap n) ++ sm (IntKind.u32.wrap (Int.fdiv n 4294967296)) = bg n := by
  have e1 : IntKind.u32.wrap n = n % 4294967296 := wrap_u32 n
  have e2 : IntKind.u32.wrap (Int.fdiv n 4294967296) = n / 4294967296 := by
    rw [wrap_u32, Int.fdiv_eq_ediv_of_nonneg _ (by omega)]; omega
  rw [e1, e2, sm_eq (by omega) (by omega), sm_eq (by omega) (by omega)]
  show _ = [lowV n 0, lowV n 1, lowV n 2, lowV n 3, lowV n 4, lowV n 5, lowV n 6, lowV n 7]
  have key : ∀ (a b : Int), a % 256 = b % 256 → V.int .u8 (IntKind.u8.wrap a) = V.int .u8 (IntKind.u8.wrap b) := fun a b h => by rw [wrapU8, wrapU8, h]
  simp only [List.cons_append, List.nil_append, lowV, Nat.reduceMul, List.cons.injEq, and_true]
  refine ⟨key _ _ ?_, key _ _ ?_, key _ _ ?_, key _ _ ?_, key _ _ ?_, key _ _ ?_, key _ _ ?_, key _ _ ?_⟩ <;> (repeat rw [Int.fdiv_eq_ediv_of_nonneg _ (by decide)]) <;> omega
def c61 : Contract := fun args objs =>
  match args, objs with
  | [.slc 1 xs .none, .int .u32 n], [] => if xs.length ≤ lam ∧ 0 ≤ n ∧ n < 4294967296 then tokR (xs ++ sm n) else none
  | _, _ => none
theorem h61' : Holds Tryd.prog G 61 c61 := (fn_holds (sound_noC (P := Tryd.prog) (G := G)) hM F15 Tryd.func61 p61 o61).less fun args objs x h => by
  unfold c61 at h
  split at h
  · rename_i xs n
    split at h
    · rename_i hc
      obtain ⟨hx, h0, h1⟩ := hc
      rw [← h]
      unfold lam at hx
      cases xs with
      | nil => rw [sm_eq h0 h1]; exact runP_sound (q61e n noC) ⟨by decide, by decide, rfl, by decide, by decide, rfl, trivial⟩
      | cons z r =>
        rw [sm_eq h0 h1]
        have e : ([] ++ (z :: r) : List V).length = (z :: r).length := rfl
        have := runP_sound (q61 (z :: r) n noC) ⟨by omega, by omega, rfl, by rw [e]; omega, by rw [e]; omega, rfl, rfl, trivial⟩
        rw [this]
        simp only [tokR, List.length_append, List.nil_append, List.length_cons, List.length_nil, Nat.zero_add]
    · cases h
  · cases h
theorem call61 {C : FuncId → Option Contract} (hC : C 61 = some c61) {xs : List V} {n : Int} (hx : xs.length ≤ lam) (h0 : 0 ≤ n ∧ n < 4294967296) : callIs C 61 [.slc 1 xs .none, .int .u32 n] [] (.slc 1 (xs ++ sm n) (.tok (.arg 0) 0)) [] [.tok (xs ++ sm n).length] := by
  simp only [callIs, hC, c61, if_pos (And.intro hx h0), tokR]
def C61 : FuncId → Option Contract := addC noC 61 c61
theorem s61 : Sound Tryd.prog G C61 := sound_noC.add Tryd.func61 (by kernel_rfl) h61'
def c107 : Contract := fun args objs =>
  match args, objs with
  | [.slc 1 xs .none, .int .u64 n], [] => if xs.length + 8 ≤ lam ∧ 0 ≤ n ∧ n < 18446744073709551616 then tokR (xs ++ bg n) else none
  | _, _ => none
theorem h107' : Holds Tryd.prog G 107 c107 := (fn_holds s61 hM F15 Tryd.func107 p107 o107).less fun args objs x h => by
  unfold c107 at h
  split at h
  · rename_i xs n
    split at h
    · rename_i hc
      obtain ⟨hx, h0, h1⟩ := hc
      rw [← h, ← bg_eq h0 h1, ← List.append_assoc]
      have e1 : IntKind.u32.wrap n = n % 4294967296 := wrap_u32 n
      have e2 : IntKind.u32.wrap (Int.fdiv n 4294967296) = n / 4294967296 := by
        rw [wrap_u32, Int.fdiv_eq_ediv_of_nonneg _ (by omega)]; omega
      exact runP_sound (q107 xs (xs ++ sm (IntKind.u32.wrap n)) (xs ++ sm (IntKind.u32.wrap n) ++ sm (IntKind.u32.wrap (Int.fdiv n 4294967296))) n C61) ⟨call61 rfl (by omega) (by rw [e1]; omega), call61 rfl (by rw [List.length_append, lowB_len4]; omega) (by rw [e2]; omega), trivial⟩
    · cases h
  · cases h
theorem call107 {C : FuncId → Option Contract} (hC : C 107 = some c107) {xs : List V} {n : Int} (hx : xs.length + 8 ≤ lam) (h0 : 0 ≤ n ∧ n < 18446744073709551616) : callIs C 107 [.slc 1 xs .none, .int .u64 n] [] (.slc 1 (xs ++ bg n) (.tok (.arg 0) 0)) [] [.tok (xs ++ bg n).length] := by
  simp only [callIs, hC, c107, if_pos (And.intro hx h0), tokR]
theorem kept2 {n : Int} (h0 : 0 ≤ n) (h1 : n < 65536) : (if (4294967295 : Int) < if (0 : Int) > n then (0 : Int) else n then (4294967295 : Int) else if (0 : Int) > n then (0 : Int) else n) = n := by
  rw [if_neg (show ¬ (0 : Int) > n by omega), if_neg (by omega)]
theorem countB_1 {n : Int} (h : n < 253) : countB n = [.int .u8 (IntKind.u8.wrap n)] := by
  rw [countB, if_pos h]
  show [lowV n 0] = _
  simp only [lowV]
  rw [show (2 : Int) ^ (8 * 0) = 1 from rfl, Int.fdiv_one]
theorem countB_3 {n : Int} (h : ¬ n < 253) : countB n = [.int .u8 253, .int .u8 (IntKind.u8.wrap n), .int .u8 (IntKind.u8.wrap (Int.fdiv n 256))] := by
  rw [countB, if_neg h]
  show [lowV 253 0, lowV n 0, lowV n 1] = _
  simp only [lowV]
  rw [show (2 : Int) ^ (8 * 0) = 1 from rfl, Int.fdiv_one, Int.fdiv_one]
  rfl
def c65 : Contract := c68
theorem h65' : Holds Tryd.prog G 65 c65 := (fn_holds s61 hM F15 Tryd.func65 p65 o65).less fun args objs x h => by
  unfold c65 c68 at h
  split at h
  · rename_i xs n
    split at h
    · rename_i hc
      obtain ⟨hx, h0, h1⟩ := hc
      have hk := kept2 h0 h1
      rw [← h]
      unfold lam at hx
      by_cases hs : n < 253
      · rw [countB_1 hs]
        cases xs with
        | nil =>
          have := runP_sound (q65ae n C61) ⟨by decide, by decide, rfl, by rw [hk]; simpa using hs, by decide, by decide, rfl, trivial⟩
          rw [this, hk]; rfl
        | cons z r =>
          have e : ([] ++ (z :: r) : List V).length = (z :: r).length := rfl
          have := runP_sound (q65a (z :: r) n C61) ⟨by omega, by omega, rfl, by rw [hk]; simpa using hs, by rw [e]; omega, by rw [e]; omega, rfl, rfl, trivial⟩
          rw [this, hk]
          simp only [tokR, List.length_append, List.nil_append, List.length_cons, List.length_nil, Nat.zero_add]
      · rw [countB_3 hs]
        cases xs with
        | nil =>
          have := runP_sound (q65be n C61) ⟨by decide, by decide, rfl, by rw [hk]; simpa using hs, by rw [hk]; simp; omega, by decide, by decide, rfl, trivial⟩
          rw [this, hk]; rfl
        | cons z r =>
          have e : ([] ++ (z :: r) : List V).length = (z :: r).length := rfl
          have := runP_sound (q65b (z :: r) n C61) ⟨by omega, by omega, rfl, by rw [hk]; simpa using hs, by rw [hk]; simp; omega, by rw [e]; omega, by rw [e]; omega, rfl, rfl, trivial⟩
          rw [this, hk]
          simp only [tokR, List.length_append, List.nil_append, List.length_cons, List.length_nil, Nat.zero_add]
    · cases h
  · cases h
theorem call65 {C : FuncId → Option Contract} (hC : C 65 = some c65) {xs : List V} {n : Nat} (hx : xs.length ≤ lam) (hz : n < 65536) : callIs C 65 [.slc 1 xs .none, .int .i64 n] [] (.slc 1 (xs ++ countB n) (.tok (.arg 0) 0)) [] [.tok (xs ++ countB n).length] := by
  have : xs.length ≤ lam ∧ (0 : Int) ≤ (n : Int) ∧ (n : Int) < 65536 := ⟨hx, by omega, by omega⟩
  simp only [callIs, hC, c65, c68, if_pos this, tokR]
def C65 : FuncId → Option Contract := addC C61 65 c65
theorem s65 : Sound Tryd.prog G C65 := s61.add Tryd.func65 (by kernel_rfl) h65'
def c106 : Contract := c105
theorem h106' : Holds Tryd.prog G 106 c106 := (fn_holds s65 hM F15 Tryd.func106 p106 o106).less fun args objs x h => by
  unfold c106 c105 at h
  split at h
  · rename_i xs zs
    split at h
    · rename_i hc
      obtain ⟨hx, hz⟩ := hc
      rw [← h]
      have hb := countB_le (zs.length : Int)
      have hl : (xs ++ countB zs.length).length ≤ xs.length + 3 := by rw [List.length_append]; omega
      have e1 := call65 (C := C65) rfl hx hz
      unfold lam at hx
      cases zs with
      | nil =>
        have e : xs ++ countedB [] = xs ++ countB 0 := by simp [countedB]
        rw [e]
        exact runP_sound (q106e xs _ _ C65) ⟨e1, by rw [Nat.mul_one]; simp only [List.length_nil] at hl; simp only [Int.natCast_zero, Nat.add_zero]; exact Nat.le_trans hl (by omega), by simp only [List.length_nil] at hl; exact Nat.le_trans hl (by omega), rfl, trivial⟩
      | cons z r =>
        have e : xs ++ countedB (z :: r) = xs ++ countB (z :: r).length ++ (z :: r) := by rw [countedB, List.append_assoc]
        rw [e, runP_sound (q106 xs _ (z :: r) _ C65) ⟨e1, by rw [Nat.mul_one]; omega, by omega, rfl, by rw [Nat.zero_add], trivial⟩]
        simp only [tokR, List.length_append]
    · cases h
  · cases h
theorem call106 {C : FuncId → Option Contract} (hC : C 106 = some c106) {xs zs : List V} (hx : xs.length ≤ lam) (hz : zs.length < 65536) : callIs C 106 [.slc 1 xs .none, .slc 1 zs .none] [] (.slc 1 (xs ++ countedB zs) (.tok (.arg 0) 0)) [] [.tok (xs ++ countedB zs).length] := by
  simp only [callIs, hC, c106, c105, if_pos (And.intro hx hz), tokR]

/-! ### the document's inputs and outputs -/
def InM.num (x : InM) : Prop := (0 ≤ x.vo ∧ x.vo < 4294967296) ∧ (0 ≤ x.sq ∧ x.sq < 4294967296)
def OutM.num (y : OutM) : Prop := 0 ≤ y.va ∧ y.va < 18446744073709551616
def TxM.num (t : TxM) : Prop := (0 ≤ t.ve ∧ t.ve < 4294967296) ∧ (0 ≤ t.lo ∧ t.lo < 4294967296) ∧ (∀ x ∈ t.ins, x.num) ∧ ∀ y ∈ t.outs, y.num
def C62 : FuncId → Option Contract := addC (addC C65 106 c106) 107 c107
theorem s62 : Sound Tryd.prog G C62 := (s65.add Tryd.func106 (by kernel_rfl) h106').add Tryd.func107 (by kernel_rfl) h107'
def rS (t : List V) (bs : List V) (i : Nat) : St := ⟨[(0, tokV 0 bs), (3, .ptr (.loc 3 0) 0), (5, .int .i64 i)], [(.loc 3 0, .cells t), (.loc 0 0, .tok bs.length)]⟩
def eS (t : List V) (bs : List V) (i : Nat) : St := ⟨[(0, tokV 0 bs), (3, .ptr (.loc 3 0) 0), (7, .int .i64 i)], [(.loc 3 0, .cells t), (.loc 0 0, .tok bs.length)]⟩
def cl62a : St → St := cleanR [0, 3, 5] [3, 12, 37] [(12, 0), (37, 0)]
def cl62b : St → St := cleanR [0, 3, 7] [3, 42, 64] [(42, 0), (64, 0)]
theorem ra (ve lo vo sq : Int) (iv ov : List V) (i : Nat) (bs y1 y2 y3 sc : List V) (w : Nat → Int) (wi : List V) : bodyP C62 F15 cl62a b62_0 (rS (txc ve lo iv ov) bs i) [.b true, .v (inC w vo sq sc wi), .e false, .call (tk y1) [] [.tok y1.length], .call (tk y2) [] [.tok y2.length], .call (tk y3) [] [.tok y3.length]] =
    some
  (St.mk
      [((0 : Nat), V.slc (1 : Nat) y3 (Own.tok (Key.loc (0 : Nat) (0 : Nat)) (0 : Nat))),
        ((3 : Nat), V.ptr (Key.loc (3 : Nat) (0 : Nat)) (0 : Nat)),
        ((5 : Nat), V.int IntKind.i64 (IntKind.wrap IntKind.i64 ((↑i : Int) + (1 : Int))))]
      [(Key.loc (3 : Nat) (0 : Nat),
          Ev.Obj.cells
            [V.int IntKind.u32 ve, V.slc (36 : Nat) iv Own.none, V.slc (2 : Nat) ov Own.none, V.int IntKind.u32 lo]),
        (Key.loc (0 : Nat) (0 : Nat), Obj.tok (List.length y3))],
    [decide ((↑i : Int) < (↑(List.length iv) : Int)) = true,
      (0 : Int) ≤ (↑i : Int) ∧ iv[Int.toNat (↑i : Int)]? = some (inC w vo sq sc wi),
      (List.length bs + (32 : Nat)) * (1 : Nat) ≤ (1099511627776 : Nat),
      List.length bs + (32 : Nat) ≤ (1099511627776 : Nat), false = false, List.length bs = (0 : Nat) + List.length bs,
      callIs C62 (61 : Nat)
        [V.slc (1 : Nat)
            (bs ++
              [V.int IntKind.u8 (w (0 : Nat)), V.int IntKind.u8 (w (1 : Nat)), V.int IntKind.u8 (w (2 : Nat)),
                V.int IntKind.u8 (w (3 : Nat)), V.int IntKind.u8 (w (4 : Nat)), V.int IntKind.u8 (w (5 : Nat)),
                V.int IntKind.u8 (w (6 : Nat)), V.int IntKind.u8 (w (7 : Nat)), V.int IntKind.u8 (w (8 : Nat)),
                V.int IntKind.u8 (w (9 : Nat)), V.int IntKind.u8 (w (10 : Nat)), V.int IntKind.u8 (w (11 : Nat)),
                V.int IntKind.u8 (w (12 : Nat)), V.int IntKind.u8 (w (13 : Nat)), V.int IntKind.u8 (w (14 : Nat)),
                V.int IntKind.u8 (w (15 : Nat)), V.int IntKind.u8 (w (16 : Nat)), V.int IntKind.u8 (w (17 : Nat)),
                V.int IntKind.u8 (w (18 : Nat)), V.int IntKind.u8 (w (19 : Nat)), V.int IntKind.u8 (w (20 : Nat)),
                V.int IntKind.u8 (w (21 : Nat)), V.int IntKind.u8 (w (22 : Nat)), V.int IntKind.u8 (w (23 : Nat)),
                V.int IntKind.u8 (w (24 : Nat)), V.int IntKind.u8 (w (25 : Nat)), V.int IntKind.u8 (w (26 : Nat)),
                V.int IntKind.u8 (w (27 : Nat)), V.int IntKind.u8 (w (28 : Nat)), V.int IntKind.u8 (w (29 : Nat)),
                V.int IntKind.u8 (w (30 : Nat)), V.int IntKind.u8 (w (31 : Nat))])
            Own.none,
          V.int IntKind.u32 vo]
        [] (tk y1) [] [Obj.tok (List.length y1)],
      callIs C62 (106 : Nat) [V.slc (1 : Nat) y1 Own.none, V.slc (1 : Nat) sc Own.none] [] (tk y2) []
        [Obj.tok (List.length y2)],
      callIs C62 (61 : Nat) [V.slc (1 : Nat) y2 Own.none, V.int IntKind.u32 sq] [] (tk y3) []
        [Obj.tok (List.length y3)]]) := by kernel_rfl
theorem rax (ve lo : Int) (iv ov bs : List V) : exitP C62 F15 b62_0 (rS (txc ve lo iv ov) bs iv.length) [.b false] =
    some
  ((Ex.exit (0 : Nat),
      St.mk
        [((17 : Nat), V.bool (decide ((↑(List.length iv) : Int) < (↑(List.length iv) : Int)))),
          ((16 : Nat), V.int IntKind.i64 (↑(List.length iv) : Int)), ((15 : Nat), V.slc (36 : Nat) iv Own.none),
          ((14 : Nat), V.ptr (Key.loc (3 : Nat) (0 : Nat)) (1 : Nat)),
          ((13 : Nat), V.int IntKind.i64 (↑(List.length iv) : Int)), ((0 : Nat), tokV (0 : Nat) bs),
          ((3 : Nat), V.ptr (Key.loc (3 : Nat) (0 : Nat)) (0 : Nat)),
          ((5 : Nat), V.int IntKind.i64 (↑(List.length iv) : Int))]
        [(Key.loc (3 : Nat) (0 : Nat), Ev.Obj.cells (txc ve lo iv ov)),
          (Key.loc (0 : Nat) (0 : Nat), Obj.tok (List.length bs))]),
    [decide ((↑(List.length iv) : Int) < (↑(List.length iv) : Int)) = false]) := by kernel_rfl
theorem ea (ve lo va : Int) (iv ov : List V) (i : Nat) (bs y1 y2 sc : List V) : bodyP C62 F15 cl62b b62_1 (eS (txc ve lo iv ov) bs i) [.b true, .v (.agg [.int .u64 va, rowV sc]), .call (tk y1) [] [.tok y1.length], .v (.agg [.int .u64 va, rowV sc]), .call (tk y2) [] [.tok y2.length]] =
    some
  (St.mk
      [((0 : Nat), V.slc (1 : Nat) y2 (Own.tok (Key.loc (0 : Nat) (0 : Nat)) (0 : Nat))),
        ((3 : Nat), V.ptr (Key.loc (3 : Nat) (0 : Nat)) (0 : Nat)),
        ((7 : Nat), V.int IntKind.i64 (IntKind.wrap IntKind.i64 ((↑i : Int) + (1 : Int))))]
      [(Key.loc (3 : Nat) (0 : Nat),
          Ev.Obj.cells
            [V.int IntKind.u32 ve, V.slc (36 : Nat) iv Own.none, V.slc (2 : Nat) ov Own.none, V.int IntKind.u32 lo]),
        (Key.loc (0 : Nat) (0 : Nat), Obj.tok (List.length y2))],
    [decide ((↑i : Int) < (↑(List.length ov) : Int)) = true,
      (0 : Int) ≤ (↑i : Int) ∧ ov[Int.toNat (↑i : Int)]? = some (V.agg [V.int IntKind.u64 va, rowV sc]),
      callIs C62 (107 : Nat) [V.slc (1 : Nat) bs Own.none, V.int IntKind.u64 va] [] (tk y1) []
        [Obj.tok (List.length y1)],
      (0 : Int) ≤ (↑i : Int) ∧ ov[Int.toNat (↑i : Int)]? = some (V.agg [V.int IntKind.u64 va, rowV sc]),
      callIs C62 (106 : Nat) [V.slc (1 : Nat) y1 Own.none, V.slc (1 : Nat) sc Own.none] [] (tk y2) []
        [Obj.tok (List.length y2)]]) := by kernel_rfl
theorem eax (ve lo : Int) (iv ov bs : List V) : exitP C62 F15 b62_1 (eS (txc ve lo iv ov) bs ov.length) [.b false] =
    some
  ((Ex.exit (2 : Nat),
      St.mk
        [((47 : Nat), V.bool (decide ((↑(List.length ov) : Int) < (↑(List.length ov) : Int)))),
          ((46 : Nat), V.int IntKind.i64 (↑(List.length ov) : Int)), ((45 : Nat), V.slc (2 : Nat) ov Own.none),
          ((44 : Nat), V.ptr (Key.loc (3 : Nat) (0 : Nat)) (2 : Nat)),
          ((43 : Nat), V.int IntKind.i64 (↑(List.length ov) : Int)), ((0 : Nat), tokV (0 : Nat) bs),
          ((3 : Nat), V.ptr (Key.loc (3 : Nat) (0 : Nat)) (0 : Nat)),
          ((7 : Nat), V.int IntKind.i64 (↑(List.length ov) : Int))]
        [(Key.loc (3 : Nat) (0 : Nat), Ev.Obj.cells (txc ve lo iv ov)),
          (Key.loc (0 : Nat) (0 : Nat), Obj.tok (List.length bs))]),
    [decide ((↑(List.length ov) : Int) < (↑(List.length ov) : Int)) = false]) := by kernel_rfl
def rX (t iv : List V) (bs : List V) : St := ⟨(17, .bool (decide ((iv.length : Int) < (iv.length : Int)))) :: (16, .int .i64 iv.length) :: (15, .slc 36 iv .none) :: (14, .ptr (.loc 3 0) 1) :: (13, .int .i64 iv.length) :: (rS t bs iv.length).tm, (rS t bs iv.length).st⟩
def eX (t ov : List V) (bs : List V) : St := ⟨(47, .bool (decide ((ov.length : Int) < (ov.length : Int)))) :: (46, .int .i64 ov.length) :: (45, .slc 2 ov .none) :: (44, .ptr (.loc 3 0) 2) :: (43, .int .i64 ov.length) :: (eS t bs ov.length).tm, (eS t bs ov.length).st⟩
theorem rr (ve lo : Int) (iv ov : List V) (bs y1 y2 y3 y4 : List V) : a62.runP F15 C62 [.slc 1 bs .none, .agg (txc ve lo iv ov)] [] [.call (tk y1) [] [.tok y1.length], .loop (.exit 0) (rX (txc ve lo iv ov) iv y2), .call (tk y3) [] [.tok y3.length], .loop (.exit 2) (eX (txc ve lo iv ov) ov y4)] =
    some
  ((V.slc (1 : Nat) y4 (Own.tok (Key.arg (0 : Nat)) (0 : Nat)), [], [Obj.tok (List.length y4)]),
    [callIs C62 (65 : Nat) [V.slc (1 : Nat) bs Own.none, V.int IntKind.i64 (↑(List.length iv) : Int)] [] (tk y1) []
        [Obj.tok (List.length y1)],
      evalCode C62 F15
          (ACode.loopR [(0 : Nat), (3 : Nat), (5 : Nat)] [(3 : Nat), (12 : Nat), (37 : Nat)]
            [((12 : Nat), (0 : Nat)), ((37 : Nat), (0 : Nat))] b62_0)
          (St.mk
            [((5 : Nat), V.int IntKind.i64 (0 : Int)),
              ((0 : Nat), V.slc (1 : Nat) y1 (Own.tok (Key.loc (12 : Nat) (0 : Nat)) (0 : Nat))),
              ((12 : Nat), V.slc (1 : Nat) y1 (Own.tok (Key.loc (12 : Nat) (0 : Nat)) (0 : Nat))),
              ((11 : Nat), V.int IntKind.i64 (↑(List.length iv) : Int)), ((10 : Nat), V.slc (36 : Nat) iv Own.none),
              ((9 : Nat), V.ptr (Key.loc (3 : Nat) (0 : Nat)) (1 : Nat)), ((8 : Nat), V.slc (1 : Nat) bs Own.none),
              ((4 : Nat), V.slc (1 : Nat) [] Own.tight), ((3 : Nat), V.ptr (Key.loc (3 : Nat) (0 : Nat)) (0 : Nat)),
              ((0 : Nat), V.slc (1 : Nat) bs Own.none), ((1 : Nat), V.agg (txc ve lo iv ov))]
            [(Key.loc (3 : Nat) (0 : Nat),
                Ev.Obj.cells
                  [V.int IntKind.u32 ve, V.slc (36 : Nat) iv Own.none, V.slc (2 : Nat) ov Own.none,
                    V.int IntKind.u32 lo]),
              (Key.loc (12 : Nat) (0 : Nat), Obj.tok (List.length y1))]) =
        some
          (Ex.exit (0 : Nat),
            St.mk
              [((17 : Nat), V.bool (decide ((↑(List.length iv) : Int) < (↑(List.length iv) : Int)))),
                ((16 : Nat), V.int IntKind.i64 (↑(List.length iv) : Int)), ((15 : Nat), V.slc (36 : Nat) iv Own.none),
                ((14 : Nat), V.ptr (Key.loc (3 : Nat) (0 : Nat)) (1 : Nat)),
                ((13 : Nat), V.int IntKind.i64 (↑(List.length iv) : Int)), ((0 : Nat), tokV (0 : Nat) y2),
                ((3 : Nat), V.ptr (Key.loc (3 : Nat) (0 : Nat)) (0 : Nat)),
                ((5 : Nat), V.int IntKind.i64 (↑(List.length iv) : Int))]
              [(Key.loc (3 : Nat) (0 : Nat), Ev.Obj.cells (txc ve lo iv ov)),
                (Key.loc (0 : Nat) (0 : Nat), Obj.tok (List.length y2))]),
      callIs C62 (65 : Nat) [V.slc (1 : Nat) y2 Own.none, V.int IntKind.i64 (↑(List.length ov) : Int)] [] (tk y3) []
        [Obj.tok (List.length y3)],
      evalCode C62 F15
          (ACode.loopR [(0 : Nat), (3 : Nat), (7 : Nat)] [(3 : Nat), (42 : Nat), (64 : Nat)]
            [((42 : Nat), (0 : Nat)), ((64 : Nat), (0 : Nat))] b62_1)
          (St.mk
            [((7 : Nat), V.int IntKind.i64 (0 : Int)),
              ((0 : Nat), V.slc (1 : Nat) y3 (Own.tok (Key.loc (42 : Nat) (0 : Nat)) (0 : Nat))),
              ((42 : Nat), V.slc (1 : Nat) y3 (Own.tok (Key.loc (42 : Nat) (0 : Nat)) (0 : Nat))),
              ((41 : Nat), V.int IntKind.i64 (↑(List.length ov) : Int)), ((40 : Nat), V.slc (2 : Nat) ov Own.none),
              ((39 : Nat), V.ptr (Key.loc (3 : Nat) (0 : Nat)) (2 : Nat)),
              ((38 : Nat), V.slc (1 : Nat) y2 (Own.tok (Key.loc (0 : Nat) (0 : Nat)) (0 : Nat))),
              ((17 : Nat), V.bool (decide ((↑(List.length iv) : Int) < (↑(List.length iv) : Int)))),
              ((16 : Nat), V.int IntKind.i64 (↑(List.length iv) : Int)), ((15 : Nat), V.slc (36 : Nat) iv Own.none),
              ((14 : Nat), V.ptr (Key.loc (3 : Nat) (0 : Nat)) (1 : Nat)),
              ((13 : Nat), V.int IntKind.i64 (↑(List.length iv) : Int)), ((0 : Nat), tokV (0 : Nat) y2),
              ((3 : Nat), V.ptr (Key.loc (3 : Nat) (0 : Nat)) (0 : Nat)),
              ((5 : Nat), V.int IntKind.i64 (↑(List.length iv) : Int))]
            [(Key.loc (3 : Nat) (0 : Nat), Ev.Obj.cells (txc ve lo iv ov)),
              (Key.loc (0 : Nat) (0 : Nat), Obj.tok (List.length y2)),
              (Key.loc (42 : Nat) (0 : Nat), Obj.tok (List.length y3))]) =
        some
          (Ex.exit (2 : Nat),
            St.mk
              [((47 : Nat), V.bool (decide ((↑(List.length ov) : Int) < (↑(List.length ov) : Int)))),
                ((46 : Nat), V.int IntKind.i64 (↑(List.length ov) : Int)), ((45 : Nat), V.slc (2 : Nat) ov Own.none),
                ((44 : Nat), V.ptr (Key.loc (3 : Nat) (0 : Nat)) (2 : Nat)),
                ((43 : Nat), V.int IntKind.i64 (↑(List.length ov) : Int)), ((0 : Nat), tokV (0 : Nat) y4),
                ((3 : Nat), V.ptr (Key.loc (3 : Nat) (0 : Nat)) (0 : Nat)),
                ((7 : Nat), V.int IntKind.i64 (↑(List.length ov) : Int))]
              [(Key.loc (3 : Nat) (0 : Nat), Ev.Obj.cells (txc ve lo iv ov)),
                (Key.loc (0 : Nat) (0 : Nat), Obj.tok (List.length y4))])]) := by kernel_rfl
theorem ins_loop2 (ve lo : Int) (ov : List V) (ins : List InM) (hok : ∀ x ∈ ins, x.ok) (hn : ∀ x ∈ ins, x.num) (hs : ∀ x ∈ ins, x.small) (hN : ins.length ≤ 50) (b0 : List V) (hb : b0.length ≤ 100000) {s0 : St} (h0 : cl62a s0 = rS (txc ve lo (ins.map InM.v) ov) b0 0) :
    evalCode C62 F15 (.loopR [0, 3, 5] [3, 12, 37] [(12, 0), (37, 0)] b62_0) s0 = some (.exit 0, rX (txc ve lo (ins.map InM.v) ov) (ins.map InM.v) (b0 ++ flat inB ins)) := by
  have hfl : ∀ i, (b0 ++ flat inB (ins.take i)).length ≤ 200000 := fun i => by
    have h1 := flat_le inB 543 (ins.take i) (fun x hx => inB_le (hok x (List.mem_of_mem_take hx)) (hs x (List.mem_of_mem_take hx)))
    have h2 : (ins.take i).length ≤ 50 := by rw [List.length_take]; omega
    have h3 := Nat.mul_le_mul_right 543 h2
    rw [List.length_append]; omega
  have lm : (ins.map InM.v).length = ins.length := List.length_map ..
  refine ev_loopR (fun i => rS (txc ve lo (ins.map InM.v) ov) (b0 ++ flat inB (ins.take i)) i) ins.length (by simp only [List.take_zero, flat, List.append_nil]; exact h0) (fun i hi => ?_) ?_ (by simp) (by unfold F15; omega)
  · have hx := List.getElem_mem hi
    obtain ⟨w, hw⟩ := p32_of (hok _ hx).1 (hok _ hx).2
    have hsm := hs _ hx
    have hnm := hn _ hx
    have hv := InM.v_eq ins[i] hw
    have hb := hfl i
    have hl32 : (p32 w).length = 32 := by rw [← hw]; exact (hok _ hx).1
    have hc := countedB_le ins[i].sc
    have hsc := hsm.1
    have hft := flat_take inB (List.getElem?_eq_getElem hi)
    refine body_to (ra ve lo ins[i].vo ins[i].sq (ins.map InM.v) ov i (b0 ++ flat inB (ins.take i)) (b0 ++ flat inB (ins.take i) ++ p32 w ++ sm ins[i].vo) (b0 ++ flat inB (ins.take i) ++ p32 w ++ sm ins[i].vo ++ countedB ins[i].sc) (b0 ++ flat inB (ins.take i) ++ p32 w ++ sm ins[i].vo ++ countedB ins[i].sc ++ sm ins[i].sq) ins[i].sc w (ins[i].wi.map rowV))
      ⟨by rw [lm]; simpa using hi, ⟨by omega, by rw [getElem_map hi, hv]⟩, by omega, by omega, rfl, by rw [Nat.zero_add], call61 rfl ?_ hnm.1, call106 rfl ?_ ?_, call61 rfl ?_ hnm.2, trivial⟩ ?_
    · show (b0 ++ flat inB (ins.take i) ++ p32 w).length ≤ lam
      rw [List.length_append]; unfold lam; omega
    · simp only [List.length_append, hl32, lowB_len4] at hb ⊢; unfold lam; omega
    · omega
    · simp only [List.length_append, hl32, lowB_len4] at hb ⊢; unfold lam; omega
    · rw [wrap_succ i (by omega)]
      have e : b0 ++ flat inB (ins.take i) ++ p32 w ++ sm ins[i].vo ++ countedB ins[i].sc ++ sm ins[i].sq = b0 ++ flat inB (ins.take (i + 1)) := by
        rw [hft, inB, hw]; simp only [List.append_assoc]
      rw [e]; rfl
  · have := exitP_sound (rax ve lo (ins.map InM.v) ov (b0 ++ flat inB ins)) ⟨by simp, trivial⟩
    simp only [List.take_length]
    rw [lm] at this
    rw [this]
    simp only [rX, lm]; rfl
theorem outs_loop2 (ve lo : Int) (iv : List V) (outs : List OutM) (hn : ∀ x ∈ outs, x.num) (hs : ∀ x ∈ outs, x.small) (hN : outs.length ≤ 50) (b0 : List V) (hb : b0.length ≤ 200000) {s0 : St} (h0 : cl62b s0 = eS (txc ve lo iv (outs.map OutM.v)) b0 0) :
    evalCode C62 F15 (.loopR [0, 3, 7] [3, 42, 64] [(42, 0), (64, 0)] b62_1) s0 = some (.exit 2, eX (txc ve lo iv (outs.map OutM.v)) (outs.map OutM.v) (b0 ++ flat otB outs)) := by
  have hfl : ∀ i, (b0 ++ flat otB (outs.take i)).length ≤ 300000 := fun i => by
    have h1 := flat_le otB 511 (outs.take i) (fun x hx => otB_le (hs x (List.mem_of_mem_take hx)))
    have h2 : (outs.take i).length ≤ 50 := by rw [List.length_take]; omega
    have h3 := Nat.mul_le_mul_right 511 h2
    rw [List.length_append]; omega
  have lm : (outs.map OutM.v).length = outs.length := List.length_map ..
  refine ev_loopR (fun i => eS (txc ve lo iv (outs.map OutM.v)) (b0 ++ flat otB (outs.take i)) i) outs.length (by simp only [List.take_zero, flat, List.append_nil]; exact h0) (fun i hi => ?_) ?_ (by simp) (by unfold F15; omega)
  · have hx := List.getElem_mem hi
    have hsm : outs[i].sc.length ≤ 500 := hs _ hx
    have hb := hfl i
    have hc := countedB_le outs[i].sc
    have hft := flat_take otB (List.getElem?_eq_getElem hi)
    have hg : (0 : Int) ≤ (i : Int) ∧ (outs.map OutM.v)[Int.toNat (i : Int)]? = some (V.agg [.int .u64 outs[i].va, rowV outs[i].sc]) := ⟨by omega, by rw [getElem_map hi]; rfl⟩
    refine body_to (ea ve lo outs[i].va iv (outs.map OutM.v) i (b0 ++ flat otB (outs.take i)) (b0 ++ flat otB (outs.take i) ++ bg outs[i].va) (b0 ++ flat otB (outs.take i) ++ bg outs[i].va ++ countedB outs[i].sc) outs[i].sc)
      ⟨by rw [lm]; simpa using hi, hg, call107 rfl ?_ (hn _ hx), hg, call106 rfl ?_ ?_, trivial⟩ ?_
    · unfold lam; omega
    · simp only [List.length_append, bg_len] at hb ⊢; unfold lam; omega
    · omega
    · rw [wrap_succ i (by omega)]
      have e : b0 ++ flat otB (outs.take i) ++ bg outs[i].va ++ countedB outs[i].sc = b0 ++ flat otB (outs.take (i + 1)) := by
        rw [hft, otB]; simp only [List.append_assoc]
      rw [e]; rfl
  · have := exitP_sound (eax ve lo iv (outs.map OutM.v) (b0 ++ flat otB outs)) ⟨by simp, trivial⟩
    simp only [List.take_length]
    rw [lm] at this
    rw [this]
    simp only [eX, lm]; rfl
def ok62 (a : List V × TxM) : Prop := a.1.length ≤ 1000 ∧ a.2.ok ∧ a.2.may ∧ a.2.num
noncomputable def c62 : Contract := relC (fun a : List V × TxM => ([.slc 1 a.1 .none, a.2.v], [])) ok62 (fun a => (.slc 1 (a.1 ++ bodyB a.2) (.tok (.arg 0) 0), [], [.tok (a.1 ++ bodyB a.2).length]))
theorem run62 (bs : List V) (t : TxM) (hb : bs.length ≤ 1000) (hok : t.ok) (hm : t.may) (hn : t.num) : a62.run F15 C62 [.slc 1 bs .none, t.v] [] = some (.slc 1 (bs ++ bodyB t) (.tok (.arg 0) 0), [], [.tok (bs ++ bodyB t).length]) := by
  obtain ⟨⟨n1, n2⟩, ⟨m1, m2⟩, hi, ho⟩ := hm
  have hci := (countB_le (t.ins.length : Int)).2
  have hco := (countB_le (t.outs.length : Int)).2
  have hfl : (flat inB t.ins).length ≤ 50 * 543 := by
    have h1 := flat_le inB 543 t.ins (fun x hx => inB_le (hok.1 x hx) (hi x hx))
    have := Nat.mul_le_mul_right 543 n2; omega
  have e : bs ++ bodyB t = bs ++ countB t.ins.length ++ flat inB t.ins ++ countB t.outs.length ++ flat otB t.outs := by simp only [bodyB, List.append_assoc]
  rw [e]
  exact runP_sound (rr t.ve t.lo (t.ins.map InM.v) (t.outs.map OutM.v) bs (bs ++ countB t.ins.length) (bs ++ countB t.ins.length ++ flat inB t.ins) (bs ++ countB t.ins.length ++ flat inB t.ins ++ countB t.outs.length) (bs ++ countB t.ins.length ++ flat inB t.ins ++ countB t.outs.length ++ flat otB t.outs))
    ⟨by rw [List.length_map]; exact call65 rfl (by unfold lam; omega) (by omega), ins_loop2 t.ve t.lo _ t.ins hok.1 hn.2.2.1 hi n2 _ (by rw [List.length_append]; omega) rfl, by rw [List.length_map]; exact call65 rfl (by simp only [List.length_append]; unfold lam; omega) (by omega),
      outs_loop2 t.ve t.lo _ t.outs hn.2.2.2 ho m2 _ (by simp only [List.length_append]; omega) rfl, trivial⟩
theorem h62' : Holds Tryd.prog G 62 c62 := (fn_holds s62 hM F15 Tryd.func62 p62 o62).less fun args objs x h => by
  obtain ⟨⟨bs, t⟩, ⟨hb, hok, hm, hn⟩, he, rfl⟩ := relC_of h
  simp only [Prod.mk.injEq] at he
  obtain ⟨rfl, rfl⟩ := he
  exact run62 bs t hb hok hm hn
theorem call62 {C : FuncId → Option Contract} (hC : C 62 = some c62) {bs : List V} {t : TxM} (hb : bs.length ≤ 1000) (hok : t.ok) (hm : t.may) (hn : t.num) : callIs C 62 [.slc 1 bs .none, t.v] [] (.slc 1 (bs ++ bodyB t) (.tok (.arg 0) 0)) [] [.tok (bs ++ bodyB t).length] := by
  simp only [callIs, hC]
  refine relC_eq (a := (bs, t)) (enc := fun a : List V × TxM => ([.slc 1 a.1 .none, a.2.v], [])) (ok := ok62) (fun a b ha hb' he => ?_) ⟨hb, hok, hm, hn⟩
  simp only [Prod.mk.injEq, List.cons.injEq, V.slc.injEq, true_and, and_true] at he
  rw [he.1, TxM.v_inj ha.2.1.1 hb'.2.1.1 he.2]

/-! ### whether it may be: the document's -/
def dS (c : List V) (i : Nat) : St := ⟨[(1, .ptr (.loc 1 0) 0), (3, .int .i64 i)], [(.loc 1 0, .cells c)]⟩
def fS (c : List V) (i k : Nat) : St := ⟨[(1, .ptr (.loc 1 0) 0), (3, .int .i64 i), (4, .int .i64 k)], [(.loc 1 0, .cells c)]⟩
def gS (c : List V) (i : Nat) : St := ⟨[(1, .ptr (.loc 1 0) 0), (5, .int .i64 i)], [(.loc 1 0, .cells c)]⟩
theorem d0 (ve lo vo sq : Int) (iv ov : List V) (i : Nat) (sc : List V) (w : Nat → Int) (wi : List V) (s : St) (C : FuncId → Option Contract) : exitP C F15 b60_1 (dS (txc ve lo iv ov) i) [.b true, .v (inC w vo sq sc wi), .g false, .g false, .g false, .g false, .v (inC w vo sq sc wi), .g false, .g false, .g false, .g false, .k false, .b false, .loop .ret s] =
    some
  ((Ex.ret, s),
    [decide ((↑i : Int) < (↑(List.length iv) : Int)) = true,
      (0 : Int) ≤ (↑i : Int) ∧ iv[Int.toNat (↑i : Int)]? = some (inC w vo sq sc wi),
      decide ((↑(List.length sc) : Int) > (500 : Int)) = false,
      decide ((↑(List.length sc) : Int) > (500 : Int)) = false,
      decide ((↑(List.length sc) : Int) > (500 : Int)) = false,
      decide ((↑(List.length sc) : Int) > (500 : Int)) = false,
      (0 : Int) ≤ (↑i : Int) ∧ iv[Int.toNat (↑i : Int)]? = some (inC w vo sq sc wi),
      decide ((↑(List.length sc) : Int) > (500 : Int)) = false,
      decide ((↑(List.length sc) : Int) > (500 : Int)) = false,
      decide ((↑(List.length sc) : Int) > (500 : Int)) = false,
      decide ((↑(List.length sc) : Int) > (500 : Int)) = false,
      decide ((↑(List.length sc) : Int) > (500 : Int)) = false, decide ((↑(List.length wi) : Int) > (10 : Int)) = false,
      evalCode C F15 (ACode.loop [(1 : Nat), (3 : Nat), (4 : Nat)] [(1 : Nat)] b60_0)
          (St.mk
            [((4 : Nat), V.int IntKind.i64 (0 : Int)),
              ((52 : Nat), V.bool (decide ((↑(List.length wi) : Int) > (10 : Int)))),
              ((51 : Nat), V.bool (decide ((↑(List.length wi) : Int) > (10 : Int)))),
              ((50 : Nat), V.int IntKind.i64 (↑(List.length wi) : Int)), ((49 : Nat), V.slc (1 : Nat) wi Own.none),
              ((48 : Nat), V.elem [V.slc (1 : Nat) wi Own.none]),
              ((47 : Nat),
                V.elem
                  [V.int IntKind.u8 (w (0 : Nat)), V.int IntKind.u8 (w (1 : Nat)), V.int IntKind.u8 (w (2 : Nat)),
                    V.int IntKind.u8 (w (3 : Nat)), V.int IntKind.u8 (w (4 : Nat)), V.int IntKind.u8 (w (5 : Nat)),
                    V.int IntKind.u8 (w (6 : Nat)), V.int IntKind.u8 (w (7 : Nat)), V.int IntKind.u8 (w (8 : Nat)),
                    V.int IntKind.u8 (w (9 : Nat)), V.int IntKind.u8 (w (10 : Nat)), V.int IntKind.u8 (w (11 : Nat)),
                    V.int IntKind.u8 (w (12 : Nat)), V.int IntKind.u8 (w (13 : Nat)), V.int IntKind.u8 (w (14 : Nat)),
                    V.int IntKind.u8 (w (15 : Nat)), V.int IntKind.u8 (w (16 : Nat)), V.int IntKind.u8 (w (17 : Nat)),
                    V.int IntKind.u8 (w (18 : Nat)), V.int IntKind.u8 (w (19 : Nat)), V.int IntKind.u8 (w (20 : Nat)),
                    V.int IntKind.u8 (w (21 : Nat)), V.int IntKind.u8 (w (22 : Nat)), V.int IntKind.u8 (w (23 : Nat)),
                    V.int IntKind.u8 (w (24 : Nat)), V.int IntKind.u8 (w (25 : Nat)), V.int IntKind.u8 (w (26 : Nat)),
                    V.int IntKind.u8 (w (27 : Nat)), V.int IntKind.u8 (w (28 : Nat)), V.int IntKind.u8 (w (29 : Nat)),
                    V.int IntKind.u8 (w (30 : Nat)), V.int IntKind.u8 (w (31 : Nat)), V.int IntKind.u32 vo, rowV sc,
                    V.int IntKind.u32 sq, V.slc (1 : Nat) wi Own.none]),
              ((46 : Nat), V.int IntKind.i64 (↑i : Int)), ((45 : Nat), V.slc (36 : Nat) iv Own.none),
              ((44 : Nat), V.ptr (Key.loc (1 : Nat) (0 : Nat)) (1 : Nat)),
              ((43 : Nat), V.bool (decide ((↑(List.length sc) : Int) > (500 : Int)))),
              ((42 : Nat), V.bool (decide ((↑(List.length sc) : Int) > (500 : Int)))),
              ((41 : Nat), V.int IntKind.i64 (↑(List.length sc) : Int)), ((40 : Nat), V.slc (1 : Nat) sc Own.none),
              ((39 : Nat), V.elem [rowV sc, V.int IntKind.u32 sq, V.slc (1 : Nat) wi Own.none]),
              ((38 : Nat),
                V.elem
                  [V.int IntKind.u8 (w (0 : Nat)), V.int IntKind.u8 (w (1 : Nat)), V.int IntKind.u8 (w (2 : Nat)),
                    V.int IntKind.u8 (w (3 : Nat)), V.int IntKind.u8 (w (4 : Nat)), V.int IntKind.u8 (w (5 : Nat)),
                    V.int IntKind.u8 (w (6 : Nat)), V.int IntKind.u8 (w (7 : Nat)), V.int IntKind.u8 (w (8 : Nat)),
                    V.int IntKind.u8 (w (9 : Nat)), V.int IntKind.u8 (w (10 : Nat)), V.int IntKind.u8 (w (11 : Nat)),
                    V.int IntKind.u8 (w (12 : Nat)), V.int IntKind.u8 (w (13 : Nat)), V.int IntKind.u8 (w (14 : Nat)),
                    V.int IntKind.u8 (w (15 : Nat)), V.int IntKind.u8 (w (16 : Nat)), V.int IntKind.u8 (w (17 : Nat)),
                    V.int IntKind.u8 (w (18 : Nat)), V.int IntKind.u8 (w (19 : Nat)), V.int IntKind.u8 (w (20 : Nat)),
                    V.int IntKind.u8 (w (21 : Nat)), V.int IntKind.u8 (w (22 : Nat)), V.int IntKind.u8 (w (23 : Nat)),
                    V.int IntKind.u8 (w (24 : Nat)), V.int IntKind.u8 (w (25 : Nat)), V.int IntKind.u8 (w (26 : Nat)),
                    V.int IntKind.u8 (w (27 : Nat)), V.int IntKind.u8 (w (28 : Nat)), V.int IntKind.u8 (w (29 : Nat)),
                    V.int IntKind.u8 (w (30 : Nat)), V.int IntKind.u8 (w (31 : Nat)), V.int IntKind.u32 vo, rowV sc,
                    V.int IntKind.u32 sq, V.slc (1 : Nat) wi Own.none]),
              ((37 : Nat), V.int IntKind.i64 (↑i : Int)), ((36 : Nat), V.slc (36 : Nat) iv Own.none),
              ((35 : Nat), V.ptr (Key.loc (1 : Nat) (0 : Nat)) (1 : Nat)),
              ((32 : Nat), V.bool (decide ((↑i : Int) < (↑(List.length iv) : Int)))),
              ((31 : Nat), V.int IntKind.i64 (↑(List.length iv) : Int)), ((30 : Nat), V.slc (36 : Nat) iv Own.none),
              ((29 : Nat), V.ptr (Key.loc (1 : Nat) (0 : Nat)) (1 : Nat)), ((28 : Nat), V.int IntKind.i64 (↑i : Int)),
              ((1 : Nat), V.ptr (Key.loc (1 : Nat) (0 : Nat)) (0 : Nat)), ((3 : Nat), V.int IntKind.i64 (↑i : Int))]
            [(Key.loc (1 : Nat) (0 : Nat), Ev.Obj.cells (txc ve lo iv ov))]) =
        some (Ex.ret, s)]) := by kernel_rfl
theorem d1 (ve lo vo sq : Int) (iv ov : List V) (i : Nat) (sc : List V) (w : Nat → Int) (wi : List V) (C : FuncId → Option Contract) : exitP C F15 b60_1 (dS (txc ve lo iv ov) i) [.b true, .v (inC w vo sq sc wi), .g true, .g true, .g true, .g true, .g true, .g true, .g true, .g true, .k true, .b true] =
    some
  ((Ex.ret,
      St.mk
        [((2 : Nat), V.bool false), ((52 : Nat), V.bool true), ((51 : Nat), V.tuple []), ((50 : Nat), V.tuple []),
          ((49 : Nat), V.tuple []), ((48 : Nat), V.tuple []), ((47 : Nat), V.tuple []), ((46 : Nat), V.tuple []),
          ((45 : Nat), V.tuple []), ((44 : Nat), V.tuple []),
          ((43 : Nat), V.bool (decide ((↑(List.length sc) : Int) > (500 : Int)))),
          ((42 : Nat), V.bool (decide ((↑(List.length sc) : Int) > (500 : Int)))),
          ((41 : Nat), V.int IntKind.i64 (↑(List.length sc) : Int)), ((40 : Nat), V.slc (1 : Nat) sc Own.none),
          ((39 : Nat), V.elem [rowV sc, V.int IntKind.u32 sq, V.slc (1 : Nat) wi Own.none]),
          ((38 : Nat),
            V.elem
              [V.int IntKind.u8 (w (0 : Nat)), V.int IntKind.u8 (w (1 : Nat)), V.int IntKind.u8 (w (2 : Nat)),
                V.int IntKind.u8 (w (3 : Nat)), V.int IntKind.u8 (w (4 : Nat)), V.int IntKind.u8 (w (5 : Nat)),
                V.int IntKind.u8 (w (6 : Nat)), V.int IntKind.u8 (w (7 : Nat)), V.int IntKind.u8 (w (8 : Nat)),
                V.int IntKind.u8 (w (9 : Nat)), V.int IntKind.u8 (w (10 : Nat)), V.int IntKind.u8 (w (11 : Nat)),
                V.int IntKind.u8 (w (12 : Nat)), V.int IntKind.u8 (w (13 : Nat)), V.int IntKind.u8 (w (14 : Nat)),
                V.int IntKind.u8 (w (15 : Nat)), V.int IntKind.u8 (w (16 : Nat)), V.int IntKind.u8 (w (17 : Nat)),
                V.int IntKind.u8 (w (18 : Nat)), V.int IntKind.u8 (w (19 : Nat)), V.int IntKind.u8 (w (20 : Nat)),
                V.int IntKind.u8 (w (21 : Nat)), V.int IntKind.u8 (w (22 : Nat)), V.int IntKind.u8 (w (23 : Nat)),
                V.int IntKind.u8 (w (24 : Nat)), V.int IntKind.u8 (w (25 : Nat)), V.int IntKind.u8 (w (26 : Nat)),
                V.int IntKind.u8 (w (27 : Nat)), V.int IntKind.u8 (w (28 : Nat)), V.int IntKind.u8 (w (29 : Nat)),
                V.int IntKind.u8 (w (30 : Nat)), V.int IntKind.u8 (w (31 : Nat)), V.int IntKind.u32 vo, rowV sc,
                V.int IntKind.u32 sq, V.slc (1 : Nat) wi Own.none]),
          ((37 : Nat), V.int IntKind.i64 (↑i : Int)), ((36 : Nat), V.slc (36 : Nat) iv Own.none),
          ((35 : Nat), V.ptr (Key.loc (1 : Nat) (0 : Nat)) (1 : Nat)),
          ((32 : Nat), V.bool (decide ((↑i : Int) < (↑(List.length iv) : Int)))),
          ((31 : Nat), V.int IntKind.i64 (↑(List.length iv) : Int)), ((30 : Nat), V.slc (36 : Nat) iv Own.none),
          ((29 : Nat), V.ptr (Key.loc (1 : Nat) (0 : Nat)) (1 : Nat)), ((28 : Nat), V.int IntKind.i64 (↑i : Int)),
          ((1 : Nat), V.ptr (Key.loc (1 : Nat) (0 : Nat)) (0 : Nat)), ((3 : Nat), V.int IntKind.i64 (↑i : Int))]
        [(Key.loc (1 : Nat) (0 : Nat), Ev.Obj.cells (txc ve lo iv ov))]),
    [decide ((↑i : Int) < (↑(List.length iv) : Int)) = true,
      (0 : Int) ≤ (↑i : Int) ∧ iv[Int.toNat (↑i : Int)]? = some (inC w vo sq sc wi),
      decide ((↑(List.length sc) : Int) > (500 : Int)) = true, decide ((↑(List.length sc) : Int) > (500 : Int)) = true,
      decide ((↑(List.length sc) : Int) > (500 : Int)) = true, decide ((↑(List.length sc) : Int) > (500 : Int)) = true,
      decide ((↑(List.length sc) : Int) > (500 : Int)) = true, decide ((↑(List.length sc) : Int) > (500 : Int)) = true,
      decide ((↑(List.length sc) : Int) > (500 : Int)) = true, decide ((↑(List.length sc) : Int) > (500 : Int)) = true,
      decide ((↑(List.length sc) : Int) > (500 : Int)) = true, true = true]) := by kernel_rfl
theorem d2 (ve lo vo sq : Int) (iv ov : List V) (i : Nat) (sc : List V) (w : Nat → Int) (wi : List V) (C : FuncId → Option Contract) : exitP C F15 b60_1 (dS (txc ve lo iv ov) i) [.b true, .v (inC w vo sq sc wi), .g false, .g false, .g false, .g false, .v (inC w vo sq sc wi), .g false, .g false, .g false, .g false, .k false, .b true] =
    some
  ((Ex.ret,
      St.mk
        [((2 : Nat), V.bool false), ((52 : Nat), V.bool (decide ((↑(List.length wi) : Int) > (10 : Int)))),
          ((51 : Nat), V.bool (decide ((↑(List.length wi) : Int) > (10 : Int)))),
          ((50 : Nat), V.int IntKind.i64 (↑(List.length wi) : Int)), ((49 : Nat), V.slc (1 : Nat) wi Own.none),
          ((48 : Nat), V.elem [V.slc (1 : Nat) wi Own.none]),
          ((47 : Nat),
            V.elem
              [V.int IntKind.u8 (w (0 : Nat)), V.int IntKind.u8 (w (1 : Nat)), V.int IntKind.u8 (w (2 : Nat)),
                V.int IntKind.u8 (w (3 : Nat)), V.int IntKind.u8 (w (4 : Nat)), V.int IntKind.u8 (w (5 : Nat)),
                V.int IntKind.u8 (w (6 : Nat)), V.int IntKind.u8 (w (7 : Nat)), V.int IntKind.u8 (w (8 : Nat)),
                V.int IntKind.u8 (w (9 : Nat)), V.int IntKind.u8 (w (10 : Nat)), V.int IntKind.u8 (w (11 : Nat)),
                V.int IntKind.u8 (w (12 : Nat)), V.int IntKind.u8 (w (13 : Nat)), V.int IntKind.u8 (w (14 : Nat)),
                V.int IntKind.u8 (w (15 : Nat)), V.int IntKind.u8 (w (16 : Nat)), V.int IntKind.u8 (w (17 : Nat)),
                V.int IntKind.u8 (w (18 : Nat)), V.int IntKind.u8 (w (19 : Nat)), V.int IntKind.u8 (w (20 : Nat)),
                V.int IntKind.u8 (w (21 : Nat)), V.int IntKind.u8 (w (22 : Nat)), V.int IntKind.u8 (w (23 : Nat)),
                V.int IntKind.u8 (w (24 : Nat)), V.int IntKind.u8 (w (25 : Nat)), V.int IntKind.u8 (w (26 : Nat)),
                V.int IntKind.u8 (w (27 : Nat)), V.int IntKind.u8 (w (28 : Nat)), V.int IntKind.u8 (w (29 : Nat)),
                V.int IntKind.u8 (w (30 : Nat)), V.int IntKind.u8 (w (31 : Nat)), V.int IntKind.u32 vo, rowV sc,
                V.int IntKind.u32 sq, V.slc (1 : Nat) wi Own.none]),
          ((46 : Nat), V.int IntKind.i64 (↑i : Int)), ((45 : Nat), V.slc (36 : Nat) iv Own.none),
          ((44 : Nat), V.ptr (Key.loc (1 : Nat) (0 : Nat)) (1 : Nat)),
          ((43 : Nat), V.bool (decide ((↑(List.length sc) : Int) > (500 : Int)))),
          ((42 : Nat), V.bool (decide ((↑(List.length sc) : Int) > (500 : Int)))),
          ((41 : Nat), V.int IntKind.i64 (↑(List.length sc) : Int)), ((40 : Nat), V.slc (1 : Nat) sc Own.none),
          ((39 : Nat), V.elem [rowV sc, V.int IntKind.u32 sq, V.slc (1 : Nat) wi Own.none]),
          ((38 : Nat),
            V.elem
              [V.int IntKind.u8 (w (0 : Nat)), V.int IntKind.u8 (w (1 : Nat)), V.int IntKind.u8 (w (2 : Nat)),
                V.int IntKind.u8 (w (3 : Nat)), V.int IntKind.u8 (w (4 : Nat)), V.int IntKind.u8 (w (5 : Nat)),
                V.int IntKind.u8 (w (6 : Nat)), V.int IntKind.u8 (w (7 : Nat)), V.int IntKind.u8 (w (8 : Nat)),
                V.int IntKind.u8 (w (9 : Nat)), V.int IntKind.u8 (w (10 : Nat)), V.int IntKind.u8 (w (11 : Nat)),
                V.int IntKind.u8 (w (12 : Nat)), V.int IntKind.u8 (w (13 : Nat)), V.int IntKind.u8 (w (14 : Nat)),
                V.int IntKind.u8 (w (15 : Nat)), V.int IntKind.u8 (w (16 : Nat)), V.int IntKind.u8 (w (17 : Nat)),
                V.int IntKind.u8 (w (18 : Nat)), V.int IntKind.u8 (w (19 : Nat)), V.int IntKind.u8 (w (20 : Nat)),
                V.int IntKind.u8 (w (21 : Nat)), V.int IntKind.u8 (w (22 : Nat)), V.int IntKind.u8 (w (23 : Nat)),
                V.int IntKind.u8 (w (24 : Nat)), V.int IntKind.u8 (w (25 : Nat)), V.int IntKind.u8 (w (26 : Nat)),
                V.int IntKind.u8 (w (27 : Nat)), V.int IntKind.u8 (w (28 : Nat)), V.int IntKind.u8 (w (29 : Nat)),
                V.int IntKind.u8 (w (30 : Nat)), V.int IntKind.u8 (w (31 : Nat)), V.int IntKind.u32 vo, rowV sc,
                V.int IntKind.u32 sq, V.slc (1 : Nat) wi Own.none]),
          ((37 : Nat), V.int IntKind.i64 (↑i : Int)), ((36 : Nat), V.slc (36 : Nat) iv Own.none),
          ((35 : Nat), V.ptr (Key.loc (1 : Nat) (0 : Nat)) (1 : Nat)),
          ((32 : Nat), V.bool (decide ((↑i : Int) < (↑(List.length iv) : Int)))),
          ((31 : Nat), V.int IntKind.i64 (↑(List.length iv) : Int)), ((30 : Nat), V.slc (36 : Nat) iv Own.none),
          ((29 : Nat), V.ptr (Key.loc (1 : Nat) (0 : Nat)) (1 : Nat)), ((28 : Nat), V.int IntKind.i64 (↑i : Int)),
          ((1 : Nat), V.ptr (Key.loc (1 : Nat) (0 : Nat)) (0 : Nat)), ((3 : Nat), V.int IntKind.i64 (↑i : Int))]
        [(Key.loc (1 : Nat) (0 : Nat), Ev.Obj.cells (txc ve lo iv ov))]),
    [decide ((↑i : Int) < (↑(List.length iv) : Int)) = true,
      (0 : Int) ≤ (↑i : Int) ∧ iv[Int.toNat (↑i : Int)]? = some (inC w vo sq sc wi),
      decide ((↑(List.length sc) : Int) > (500 : Int)) = false,
      decide ((↑(List.length sc) : Int) > (500 : Int)) = false,
      decide ((↑(List.length sc) : Int) > (500 : Int)) = false,
      decide ((↑(List.length sc) : Int) > (500 : Int)) = false,
      (0 : Int) ≤ (↑i : Int) ∧ iv[Int.toNat (↑i : Int)]? = some (inC w vo sq sc wi),
      decide ((↑(List.length sc) : Int) > (500 : Int)) = false,
      decide ((↑(List.length sc) : Int) > (500 : Int)) = false,
      decide ((↑(List.length sc) : Int) > (500 : Int)) = false,
      decide ((↑(List.length sc) : Int) > (500 : Int)) = false,
      decide ((↑(List.length sc) : Int) > (500 : Int)) = false, decide ((↑(List.length wi) : Int) > (10 : Int)) = true]) := by kernel_rfl
def fXT (c : List V) (i : Nat) (w : Nat → Int) (vo sq : Int) (sc : List V) (iv wi : List V) : St := ⟨(61, .bool (decide ((wi.length : Int) < (wi.length : Int)))) :: (60, .int .i64 wi.length) :: (59, .slc 1 wi .none) :: (58, .elem [.slc 1 wi .none]) :: (57, .elem ((p32 w) ++ [.int .u32 vo, rowV sc, .int .u32 sq, .slc 1 wi .none])) :: (56, .int .i64 i) :: (55, .slc 36 iv .none) :: (54, .ptr (.loc 1 0) 1) :: (53, .int .i64 wi.length) :: (fS c i wi.length).tm, (fS c i wi.length).st⟩
theorem db (ve lo vo sq : Int) (iv ov : List V) (i : Nat) (sc : List V) (w : Nat → Int) (wi : List V) (C : FuncId → Option Contract) : bodyP C F15 (clean [1, 3] [1]) b60_1 (dS (txc ve lo iv ov) i) [.b true, .v (inC w vo sq sc wi), .g false, .g false, .g false, .g false, .v (inC w vo sq sc wi), .g false, .g false, .g false, .g false, .k false, .b false, .loop (.exit 2) (fXT (txc ve lo iv ov) i w vo sq sc iv wi)] =
    some
  (St.mk
      [((1 : Nat), V.ptr (Key.loc (1 : Nat) (0 : Nat)) (0 : Nat)),
        ((3 : Nat), V.int IntKind.i64 (IntKind.wrap IntKind.i64 ((↑i : Int) + (1 : Int))))]
      [(Key.loc (1 : Nat) (0 : Nat),
          Ev.Obj.cells
            [V.int IntKind.u32 ve, V.slc (36 : Nat) iv Own.none, V.slc (2 : Nat) ov Own.none, V.int IntKind.u32 lo])],
    [decide ((↑i : Int) < (↑(List.length iv) : Int)) = true,
      (0 : Int) ≤ (↑i : Int) ∧ iv[Int.toNat (↑i : Int)]? = some (inC w vo sq sc wi),
      decide ((↑(List.length sc) : Int) > (500 : Int)) = false,
      decide ((↑(List.length sc) : Int) > (500 : Int)) = false,
      decide ((↑(List.length sc) : Int) > (500 : Int)) = false,
      decide ((↑(List.length sc) : Int) > (500 : Int)) = false,
      (0 : Int) ≤ (↑i : Int) ∧ iv[Int.toNat (↑i : Int)]? = some (inC w vo sq sc wi),
      decide ((↑(List.length sc) : Int) > (500 : Int)) = false,
      decide ((↑(List.length sc) : Int) > (500 : Int)) = false,
      decide ((↑(List.length sc) : Int) > (500 : Int)) = false,
      decide ((↑(List.length sc) : Int) > (500 : Int)) = false,
      decide ((↑(List.length sc) : Int) > (500 : Int)) = false, decide ((↑(List.length wi) : Int) > (10 : Int)) = false,
      evalCode C F15 (ACode.loop [(1 : Nat), (3 : Nat), (4 : Nat)] [(1 : Nat)] b60_0)
          (St.mk
            [((4 : Nat), V.int IntKind.i64 (0 : Int)),
              ((52 : Nat), V.bool (decide ((↑(List.length wi) : Int) > (10 : Int)))),
              ((51 : Nat), V.bool (decide ((↑(List.length wi) : Int) > (10 : Int)))),
              ((50 : Nat), V.int IntKind.i64 (↑(List.length wi) : Int)), ((49 : Nat), V.slc (1 : Nat) wi Own.none),
              ((48 : Nat), V.elem [V.slc (1 : Nat) wi Own.none]),
              ((47 : Nat),
                V.elem
                  [V.int IntKind.u8 (w (0 : Nat)), V.int IntKind.u8 (w (1 : Nat)), V.int IntKind.u8 (w (2 : Nat)),
                    V.int IntKind.u8 (w (3 : Nat)), V.int IntKind.u8 (w (4 : Nat)), V.int IntKind.u8 (w (5 : Nat)),
                    V.int IntKind.u8 (w (6 : Nat)), V.int IntKind.u8 (w (7 : Nat)), V.int IntKind.u8 (w (8 : Nat)),
                    V.int IntKind.u8 (w (9 : Nat)), V.int IntKind.u8 (w (10 : Nat)), V.int IntKind.u8 (w (11 : Nat)),
                    V.int IntKind.u8 (w (12 : Nat)), V.int IntKind.u8 (w (13 : Nat)), V.int IntKind.u8 (w (14 : Nat)),
                    V.int IntKind.u8 (w (15 : Nat)), V.int IntKind.u8 (w (16 : Nat)), V.int IntKind.u8 (w (17 : Nat)),
                    V.int IntKind.u8 (w (18 : Nat)), V.int IntKind.u8 (w (19 : Nat)), V.int IntKind.u8 (w (20 : Nat)),
                    V.int IntKind.u8 (w (21 : Nat)), V.int IntKind.u8 (w (22 : Nat)), V.int IntKind.u8 (w (23 : Nat)),
                    V.int IntKind.u8 (w (24 : Nat)), V.int IntKind.u8 (w (25 : Nat)), V.int IntKind.u8 (w (26 : Nat)),
                    V.int IntKind.u8 (w (27 : Nat)), V.int IntKind.u8 (w (28 : Nat)), V.int IntKind.u8 (w (29 : Nat)),
                    V.int IntKind.u8 (w (30 : Nat)), V.int IntKind.u8 (w (31 : Nat)), V.int IntKind.u32 vo, rowV sc,
                    V.int IntKind.u32 sq, V.slc (1 : Nat) wi Own.none]),
              ((46 : Nat), V.int IntKind.i64 (↑i : Int)), ((45 : Nat), V.slc (36 : Nat) iv Own.none),
              ((44 : Nat), V.ptr (Key.loc (1 : Nat) (0 : Nat)) (1 : Nat)),
              ((43 : Nat), V.bool (decide ((↑(List.length sc) : Int) > (500 : Int)))),
              ((42 : Nat), V.bool (decide ((↑(List.length sc) : Int) > (500 : Int)))),
              ((41 : Nat), V.int IntKind.i64 (↑(List.length sc) : Int)), ((40 : Nat), V.slc (1 : Nat) sc Own.none),
              ((39 : Nat), V.elem [rowV sc, V.int IntKind.u32 sq, V.slc (1 : Nat) wi Own.none]),
              ((38 : Nat),
                V.elem
                  [V.int IntKind.u8 (w (0 : Nat)), V.int IntKind.u8 (w (1 : Nat)), V.int IntKind.u8 (w (2 : Nat)),
                    V.int IntKind.u8 (w (3 : Nat)), V.int IntKind.u8 (w (4 : Nat)), V.int IntKind.u8 (w (5 : Nat)),
                    V.int IntKind.u8 (w (6 : Nat)), V.int IntKind.u8 (w (7 : Nat)), V.int IntKind.u8 (w (8 : Nat)),
                    V.int IntKind.u8 (w (9 : Nat)), V.int IntKind.u8 (w (10 : Nat)), V.int IntKind.u8 (w (11 : Nat)),
                    V.int IntKind.u8 (w (12 : Nat)), V.int IntKind.u8 (w (13 : Nat)), V.int IntKind.u8 (w (14 : Nat)),
                    V.int IntKind.u8 (w (15 : Nat)), V.int IntKind.u8 (w (16 : Nat)), V.int IntKind.u8 (w (17 : Nat)),
                    V.int IntKind.u8 (w (18 : Nat)), V.int IntKind.u8 (w (19 : Nat)), V.int IntKind.u8 (w (20 : Nat)),
                    V.int IntKind.u8 (w (21 : Nat)), V.int IntKind.u8 (w (22 : Nat)), V.int IntKind.u8 (w (23 : Nat)),
                    V.int IntKind.u8 (w (24 : Nat)), V.int IntKind.u8 (w (25 : Nat)), V.int IntKind.u8 (w (26 : Nat)),
                    V.int IntKind.u8 (w (27 : Nat)), V.int IntKind.u8 (w (28 : Nat)), V.int IntKind.u8 (w (29 : Nat)),
                    V.int IntKind.u8 (w (30 : Nat)), V.int IntKind.u8 (w (31 : Nat)), V.int IntKind.u32 vo, rowV sc,
                    V.int IntKind.u32 sq, V.slc (1 : Nat) wi Own.none]),
              ((37 : Nat), V.int IntKind.i64 (↑i : Int)), ((36 : Nat), V.slc (36 : Nat) iv Own.none),
              ((35 : Nat), V.ptr (Key.loc (1 : Nat) (0 : Nat)) (1 : Nat)),
              ((32 : Nat), V.bool (decide ((↑i : Int) < (↑(List.length iv) : Int)))),
              ((31 : Nat), V.int IntKind.i64 (↑(List.length iv) : Int)), ((30 : Nat), V.slc (36 : Nat) iv Own.none),
              ((29 : Nat), V.ptr (Key.loc (1 : Nat) (0 : Nat)) (1 : Nat)), ((28 : Nat), V.int IntKind.i64 (↑i : Int)),
              ((1 : Nat), V.ptr (Key.loc (1 : Nat) (0 : Nat)) (0 : Nat)), ((3 : Nat), V.int IntKind.i64 (↑i : Int))]
            [(Key.loc (1 : Nat) (0 : Nat), Ev.Obj.cells (txc ve lo iv ov))]) =
        some
          (Ex.exit (2 : Nat),
            St.mk
              [((61 : Nat), V.bool (decide ((↑(List.length wi) : Int) < (↑(List.length wi) : Int)))),
                ((60 : Nat), V.int IntKind.i64 (↑(List.length wi) : Int)), ((59 : Nat), V.slc (1 : Nat) wi Own.none),
                ((58 : Nat), V.elem [V.slc (1 : Nat) wi Own.none]),
                ((57 : Nat),
                  V.elem
                    [V.int IntKind.u8 (w (0 : Nat)), V.int IntKind.u8 (w (1 : Nat)), V.int IntKind.u8 (w (2 : Nat)),
                      V.int IntKind.u8 (w (3 : Nat)), V.int IntKind.u8 (w (4 : Nat)), V.int IntKind.u8 (w (5 : Nat)),
                      V.int IntKind.u8 (w (6 : Nat)), V.int IntKind.u8 (w (7 : Nat)), V.int IntKind.u8 (w (8 : Nat)),
                      V.int IntKind.u8 (w (9 : Nat)), V.int IntKind.u8 (w (10 : Nat)), V.int IntKind.u8 (w (11 : Nat)),
                      V.int IntKind.u8 (w (12 : Nat)), V.int IntKind.u8 (w (13 : Nat)), V.int IntKind.u8 (w (14 : Nat)),
                      V.int IntKind.u8 (w (15 : Nat)), V.int IntKind.u8 (w (16 : Nat)), V.int IntKind.u8 (w (17 : Nat)),
                      V.int IntKind.u8 (w (18 : Nat)), V.int IntKind.u8 (w (19 : Nat)), V.int IntKind.u8 (w (20 : Nat)),
                      V.int IntKind.u8 (w (21 : Nat)), V.int IntKind.u8 (w (22 : Nat)), V.int IntKind.u8 (w (23 : Nat)),
                      V.int IntKind.u8 (w (24 : Nat)), V.int IntKind.u8 (w (25 : Nat)), V.int IntKind.u8 (w (26 : Nat)),
                      V.int IntKind.u8 (w (27 : Nat)), V.int IntKind.u8 (w (28 : Nat)), V.int IntKind.u8 (w (29 : Nat)),
                      V.int IntKind.u8 (w (30 : Nat)), V.int IntKind.u8 (w (31 : Nat)), V.int IntKind.u32 vo, rowV sc,
                      V.int IntKind.u32 sq, V.slc (1 : Nat) wi Own.none]),
                ((56 : Nat), V.int IntKind.i64 (↑i : Int)), ((55 : Nat), V.slc (36 : Nat) iv Own.none),
                ((54 : Nat), V.ptr (Key.loc (1 : Nat) (0 : Nat)) (1 : Nat)),
                ((53 : Nat), V.int IntKind.i64 (↑(List.length wi) : Int)),
                ((1 : Nat), V.ptr (Key.loc (1 : Nat) (0 : Nat)) (0 : Nat)), ((3 : Nat), V.int IntKind.i64 (↑i : Int)),
                ((4 : Nat), V.int IntKind.i64 (↑(List.length wi) : Int))]
              [(Key.loc (1 : Nat) (0 : Nat), Ev.Obj.cells (txc ve lo iv ov))])]) := by kernel_rfl
theorem dx (ve lo : Int) (iv ov : List V) (C : FuncId → Option Contract) : exitP C F15 b60_1 (dS (txc ve lo iv ov) iv.length) [.b false] =
    some
  ((Ex.exit (0 : Nat),
      St.mk
        [((32 : Nat), V.bool (decide ((↑(List.length iv) : Int) < (↑(List.length iv) : Int)))),
          ((31 : Nat), V.int IntKind.i64 (↑(List.length iv) : Int)), ((30 : Nat), V.slc (36 : Nat) iv Own.none),
          ((29 : Nat), V.ptr (Key.loc (1 : Nat) (0 : Nat)) (1 : Nat)),
          ((28 : Nat), V.int IntKind.i64 (↑(List.length iv) : Int)),
          ((1 : Nat), V.ptr (Key.loc (1 : Nat) (0 : Nat)) (0 : Nat)),
          ((3 : Nat), V.int IntKind.i64 (↑(List.length iv) : Int))]
        [(Key.loc (1 : Nat) (0 : Nat), Ev.Obj.cells (txc ve lo iv ov))]),
    [decide ((↑(List.length iv) : Int) < (↑(List.length iv) : Int)) = false]) := by kernel_rfl
theorem fb (ve lo vo sq : Int) (iv ov : List V) (i k : Nat) (sc l : List V) (w : Nat → Int) (wi : List V) (C : FuncId → Option Contract) : bodyP C F15 (clean [1, 3, 4] [1]) b60_0 (fS (txc ve lo iv ov) i k) [.v (inC w vo sq sc wi), .b true, .v (inC w vo sq sc wi), .v (rowV l), .b false] =
    some
  (St.mk
      [((1 : Nat), V.ptr (Key.loc (1 : Nat) (0 : Nat)) (0 : Nat)), ((3 : Nat), V.int IntKind.i64 (↑i : Int)),
        ((4 : Nat), V.int IntKind.i64 (IntKind.wrap IntKind.i64 ((↑k : Int) + (1 : Int))))]
      [(Key.loc (1 : Nat) (0 : Nat),
          Ev.Obj.cells
            [V.int IntKind.u32 ve, V.slc (36 : Nat) iv Own.none, V.slc (2 : Nat) ov Own.none, V.int IntKind.u32 lo])],
    [(0 : Int) ≤ (↑i : Int) ∧ iv[Int.toNat (↑i : Int)]? = some (inC w vo sq sc wi),
      decide ((↑k : Int) < (↑(List.length wi) : Int)) = true,
      (0 : Int) ≤ (↑i : Int) ∧ iv[Int.toNat (↑i : Int)]? = some (inC w vo sq sc wi),
      (0 : Int) ≤ (↑k : Int) ∧ wi[Int.toNat (↑k : Int)]? = some (rowV l),
      decide ((↑(List.length l) : Int) > (500 : Int)) = false]) := by kernel_rfl
theorem ff (ve lo vo sq : Int) (iv ov : List V) (i k : Nat) (sc l : List V) (w : Nat → Int) (wi : List V) (C : FuncId → Option Contract) : exitP C F15 b60_0 (fS (txc ve lo iv ov) i k) [.v (inC w vo sq sc wi), .b true, .v (inC w vo sq sc wi), .v (rowV l), .b true] =
    some
  ((Ex.ret,
      St.mk
        [((2 : Nat), V.bool false), ((74 : Nat), V.bool (decide ((↑(List.length l) : Int) > (500 : Int)))),
          ((73 : Nat), V.int IntKind.i64 (↑(List.length l) : Int)), ((72 : Nat), V.slc (1 : Nat) l Own.none),
          ((71 : Nat), V.elem [rowV l]), ((70 : Nat), V.int IntKind.i64 (↑k : Int)),
          ((69 : Nat), V.slc (1 : Nat) wi Own.none), ((68 : Nat), V.elem [V.slc (1 : Nat) wi Own.none]),
          ((67 : Nat),
            V.elem
              [V.int IntKind.u8 (w (0 : Nat)), V.int IntKind.u8 (w (1 : Nat)), V.int IntKind.u8 (w (2 : Nat)),
                V.int IntKind.u8 (w (3 : Nat)), V.int IntKind.u8 (w (4 : Nat)), V.int IntKind.u8 (w (5 : Nat)),
                V.int IntKind.u8 (w (6 : Nat)), V.int IntKind.u8 (w (7 : Nat)), V.int IntKind.u8 (w (8 : Nat)),
                V.int IntKind.u8 (w (9 : Nat)), V.int IntKind.u8 (w (10 : Nat)), V.int IntKind.u8 (w (11 : Nat)),
                V.int IntKind.u8 (w (12 : Nat)), V.int IntKind.u8 (w (13 : Nat)), V.int IntKind.u8 (w (14 : Nat)),
                V.int IntKind.u8 (w (15 : Nat)), V.int IntKind.u8 (w (16 : Nat)), V.int IntKind.u8 (w (17 : Nat)),
                V.int IntKind.u8 (w (18 : Nat)), V.int IntKind.u8 (w (19 : Nat)), V.int IntKind.u8 (w (20 : Nat)),
                V.int IntKind.u8 (w (21 : Nat)), V.int IntKind.u8 (w (22 : Nat)), V.int IntKind.u8 (w (23 : Nat)),
                V.int IntKind.u8 (w (24 : Nat)), V.int IntKind.u8 (w (25 : Nat)), V.int IntKind.u8 (w (26 : Nat)),
                V.int IntKind.u8 (w (27 : Nat)), V.int IntKind.u8 (w (28 : Nat)), V.int IntKind.u8 (w (29 : Nat)),
                V.int IntKind.u8 (w (30 : Nat)), V.int IntKind.u8 (w (31 : Nat)), V.int IntKind.u32 vo, rowV sc,
                V.int IntKind.u32 sq, V.slc (1 : Nat) wi Own.none]),
          ((66 : Nat), V.int IntKind.i64 (↑i : Int)), ((65 : Nat), V.slc (36 : Nat) iv Own.none),
          ((64 : Nat), V.ptr (Key.loc (1 : Nat) (0 : Nat)) (1 : Nat)),
          ((61 : Nat), V.bool (decide ((↑k : Int) < (↑(List.length wi) : Int)))),
          ((60 : Nat), V.int IntKind.i64 (↑(List.length wi) : Int)), ((59 : Nat), V.slc (1 : Nat) wi Own.none),
          ((58 : Nat), V.elem [V.slc (1 : Nat) wi Own.none]),
          ((57 : Nat),
            V.elem
              [V.int IntKind.u8 (w (0 : Nat)), V.int IntKind.u8 (w (1 : Nat)), V.int IntKind.u8 (w (2 : Nat)),
                V.int IntKind.u8 (w (3 : Nat)), V.int IntKind.u8 (w (4 : Nat)), V.int IntKind.u8 (w (5 : Nat)),
                V.int IntKind.u8 (w (6 : Nat)), V.int IntKind.u8 (w (7 : Nat)), V.int IntKind.u8 (w (8 : Nat)),
                V.int IntKind.u8 (w (9 : Nat)), V.int IntKind.u8 (w (10 : Nat)), V.int IntKind.u8 (w (11 : Nat)),
                V.int IntKind.u8 (w (12 : Nat)), V.int IntKind.u8 (w (13 : Nat)), V.int IntKind.u8 (w (14 : Nat)),
                V.int IntKind.u8 (w (15 : Nat)), V.int IntKind.u8 (w (16 : Nat)), V.int IntKind.u8 (w (17 : Nat)),
                V.int IntKind.u8 (w (18 : Nat)), V.int IntKind.u8 (w (19 : Nat)), V.int IntKind.u8 (w (20 : Nat)),
                V.int IntKind.u8 (w (21 : Nat)), V.int IntKind.u8 (w (22 : Nat)), V.int IntKind.u8 (w (23 : Nat)),
                V.int IntKind.u8 (w (24 : Nat)), V.int IntKind.u8 (w (25 : Nat)), V.int IntKind.u8 (w (26 : Nat)),
                V.int IntKind.u8 (w (27 : Nat)), V.int IntKind.u8 (w (28 : Nat)), V.int IntKind.u8 (w (29 : Nat)),
                V.int IntKind.u8 (w (30 : Nat)), V.int IntKind.u8 (w (31 : Nat)), V.int IntKind.u32 vo, rowV sc,
                V.int IntKind.u32 sq, V.slc (1 : Nat) wi Own.none]),
          ((56 : Nat), V.int IntKind.i64 (↑i : Int)), ((55 : Nat), V.slc (36 : Nat) iv Own.none),
          ((54 : Nat), V.ptr (Key.loc (1 : Nat) (0 : Nat)) (1 : Nat)), ((53 : Nat), V.int IntKind.i64 (↑k : Int)),
          ((1 : Nat), V.ptr (Key.loc (1 : Nat) (0 : Nat)) (0 : Nat)), ((3 : Nat), V.int IntKind.i64 (↑i : Int)),
          ((4 : Nat), V.int IntKind.i64 (↑k : Int))]
        [(Key.loc (1 : Nat) (0 : Nat), Ev.Obj.cells (txc ve lo iv ov))]),
    [(0 : Int) ≤ (↑i : Int) ∧ iv[Int.toNat (↑i : Int)]? = some (inC w vo sq sc wi),
      decide ((↑k : Int) < (↑(List.length wi) : Int)) = true,
      (0 : Int) ≤ (↑i : Int) ∧ iv[Int.toNat (↑i : Int)]? = some (inC w vo sq sc wi),
      (0 : Int) ≤ (↑k : Int) ∧ wi[Int.toNat (↑k : Int)]? = some (rowV l),
      decide ((↑(List.length l) : Int) > (500 : Int)) = true]) := by kernel_rfl
theorem fx (ve lo vo sq : Int) (iv ov : List V) (i : Nat) (sc : List V) (w : Nat → Int) (wi : List V) (C : FuncId → Option Contract) : exitP C F15 b60_0 (fS (txc ve lo iv ov) i wi.length) [.v (inC w vo sq sc wi), .b false] =
    some
  ((Ex.exit (2 : Nat),
      St.mk
        [((61 : Nat), V.bool (decide ((↑(List.length wi) : Int) < (↑(List.length wi) : Int)))),
          ((60 : Nat), V.int IntKind.i64 (↑(List.length wi) : Int)), ((59 : Nat), V.slc (1 : Nat) wi Own.none),
          ((58 : Nat), V.elem [V.slc (1 : Nat) wi Own.none]),
          ((57 : Nat),
            V.elem
              [V.int IntKind.u8 (w (0 : Nat)), V.int IntKind.u8 (w (1 : Nat)), V.int IntKind.u8 (w (2 : Nat)),
                V.int IntKind.u8 (w (3 : Nat)), V.int IntKind.u8 (w (4 : Nat)), V.int IntKind.u8 (w (5 : Nat)),
                V.int IntKind.u8 (w (6 : Nat)), V.int IntKind.u8 (w (7 : Nat)), V.int IntKind.u8 (w (8 : Nat)),
                V.int IntKind.u8 (w (9 : Nat)), V.int IntKind.u8 (w (10 : Nat)), V.int IntKind.u8 (w (11 : Nat)),
                V.int IntKind.u8 (w (12 : Nat)), V.int IntKind.u8 (w (13 : Nat)), V.int IntKind.u8 (w (14 : Nat)),
                V.int IntKind.u8 (w (15 : Nat)), V.int IntKind.u8 (w (16 : Nat)), V.int IntKind.u8 (w (17 : Nat)),
                V.int IntKind.u8 (w (18 : Nat)), V.int IntKind.u8 (w (19 : Nat)), V.int IntKind.u8 (w (20 : Nat)),
                V.int IntKind.u8 (w (21 : Nat)), V.int IntKind.u8 (w (22 : Nat)), V.int IntKind.u8 (w (23 : Nat)),
                V.int IntKind.u8 (w (24 : Nat)), V.int IntKind.u8 (w (25 : Nat)), V.int IntKind.u8 (w (26 : Nat)),
                V.int IntKind.u8 (w (27 : Nat)), V.int IntKind.u8 (w (28 : Nat)), V.int IntKind.u8 (w (29 : Nat)),
                V.int IntKind.u8 (w (30 : Nat)), V.int IntKind.u8 (w (31 : Nat)), V.int IntKind.u32 vo, rowV sc,
                V.int IntKind.u32 sq, V.slc (1 : Nat) wi Own.none]),
          ((56 : Nat), V.int IntKind.i64 (↑i : Int)), ((55 : Nat), V.slc (36 : Nat) iv Own.none),
          ((54 : Nat), V.ptr (Key.loc (1 : Nat) (0 : Nat)) (1 : Nat)),
          ((53 : Nat), V.int IntKind.i64 (↑(List.length wi) : Int)),
          ((1 : Nat), V.ptr (Key.loc (1 : Nat) (0 : Nat)) (0 : Nat)), ((3 : Nat), V.int IntKind.i64 (↑i : Int)),
          ((4 : Nat), V.int IntKind.i64 (↑(List.length wi) : Int))]
        [(Key.loc (1 : Nat) (0 : Nat), Ev.Obj.cells (txc ve lo iv ov))]),
    [(0 : Int) ≤ (↑i : Int) ∧ iv[Int.toNat (↑i : Int)]? = some (inC w vo sq sc wi),
      decide ((↑(List.length wi) : Int) < (↑(List.length wi) : Int)) = false]) := by kernel_rfl
theorem gb (ve lo va : Int) (iv ov sc : List V) (i : Nat) (C : FuncId → Option Contract) : bodyP C F15 (clean [1, 5] [1]) b60_2 (gS (txc ve lo iv ov) i) [.b true, .v (.agg [.int .u64 va, rowV sc]), .b false] =
    some
  (St.mk
      [((1 : Nat), V.ptr (Key.loc (1 : Nat) (0 : Nat)) (0 : Nat)),
        ((5 : Nat), V.int IntKind.i64 (IntKind.wrap IntKind.i64 ((↑i : Int) + (1 : Int))))]
      [(Key.loc (1 : Nat) (0 : Nat),
          Ev.Obj.cells
            [V.int IntKind.u32 ve, V.slc (36 : Nat) iv Own.none, V.slc (2 : Nat) ov Own.none, V.int IntKind.u32 lo])],
    [decide ((↑i : Int) < (↑(List.length ov) : Int)) = true,
      (0 : Int) ≤ (↑i : Int) ∧ ov[Int.toNat (↑i : Int)]? = some (V.agg [V.int IntKind.u64 va, rowV sc]),
      decide ((↑(List.length sc) : Int) > (500 : Int)) = false]) := by kernel_rfl
theorem gf (ve lo va : Int) (iv ov sc : List V) (i : Nat) (C : FuncId → Option Contract) : exitP C F15 b60_2 (gS (txc ve lo iv ov) i) [.b true, .v (.agg [.int .u64 va, rowV sc]), .b true] =
    some
  ((Ex.ret,
      St.mk
        [((2 : Nat), V.bool false), ((89 : Nat), V.bool (decide ((↑(List.length sc) : Int) > (500 : Int)))),
          ((88 : Nat), V.int IntKind.i64 (↑(List.length sc) : Int)), ((87 : Nat), V.slc (1 : Nat) sc Own.none),
          ((86 : Nat), V.elem [rowV sc]), ((85 : Nat), V.elem [V.int IntKind.u64 va, rowV sc]),
          ((84 : Nat), V.int IntKind.i64 (↑i : Int)), ((83 : Nat), V.slc (2 : Nat) ov Own.none),
          ((82 : Nat), V.ptr (Key.loc (1 : Nat) (0 : Nat)) (2 : Nat)),
          ((79 : Nat), V.bool (decide ((↑i : Int) < (↑(List.length ov) : Int)))),
          ((78 : Nat), V.int IntKind.i64 (↑(List.length ov) : Int)), ((77 : Nat), V.slc (2 : Nat) ov Own.none),
          ((76 : Nat), V.ptr (Key.loc (1 : Nat) (0 : Nat)) (2 : Nat)), ((75 : Nat), V.int IntKind.i64 (↑i : Int)),
          ((1 : Nat), V.ptr (Key.loc (1 : Nat) (0 : Nat)) (0 : Nat)), ((5 : Nat), V.int IntKind.i64 (↑i : Int))]
        [(Key.loc (1 : Nat) (0 : Nat), Ev.Obj.cells (txc ve lo iv ov))]),
    [decide ((↑i : Int) < (↑(List.length ov) : Int)) = true,
      (0 : Int) ≤ (↑i : Int) ∧ ov[Int.toNat (↑i : Int)]? = some (V.agg [V.int IntKind.u64 va, rowV sc]),
      decide ((↑(List.length sc) : Int) > (500 : Int)) = true]) := by kernel_rfl
theorem gx (ve lo : Int) (iv ov : List V) (C : FuncId → Option Contract) : exitP C F15 b60_2 (gS (txc ve lo iv ov) ov.length) [.b false] =
    some
  ((Ex.exit (4 : Nat),
      St.mk
        [((79 : Nat), V.bool (decide ((↑(List.length ov) : Int) < (↑(List.length ov) : Int)))),
          ((78 : Nat), V.int IntKind.i64 (↑(List.length ov) : Int)), ((77 : Nat), V.slc (2 : Nat) ov Own.none),
          ((76 : Nat), V.ptr (Key.loc (1 : Nat) (0 : Nat)) (2 : Nat)),
          ((75 : Nat), V.int IntKind.i64 (↑(List.length ov) : Int)),
          ((1 : Nat), V.ptr (Key.loc (1 : Nat) (0 : Nat)) (0 : Nat)),
          ((5 : Nat), V.int IntKind.i64 (↑(List.length ov) : Int))]
        [(Key.loc (1 : Nat) (0 : Nat), Ev.Obj.cells (txc ve lo iv ov))]),
    [decide ((↑(List.length ov) : Int) < (↑(List.length ov) : Int)) = false]) := by kernel_rfl
theorem longB_eq (l : List V) : decide ((l.length : Int) > 500) = longB l := rfl
theorem wit60 (ve lo : Int) (ov : List V) (ins : List InM) (i : Nat) (hi : i < ins.length) (w : Nat → Int) (hv : ins[i].v = inC w ins[i].vo ins[i].sq ins[i].sc (ins[i].wi.map rowV)) (hwl : ins[i].wi.length ≤ 1000000) (C : FuncId → Option Contract) {s0 : St} (h0 : clean [1, 3, 4] [1] s0 = fS (txc ve lo (ins.map InM.v) ov) i 0) :
    (ins[i].wi.any longB = false ∧ evalCode C F15 (.loop [1, 3, 4] [1] b60_0) s0 = some (.exit 2, fXT (txc ve lo (ins.map InM.v) ov) i w ins[i].vo ins[i].sq ins[i].sc (ins.map InM.v) (ins[i].wi.map rowV))) ∨ (ins[i].wi.any longB = true ∧ ∃ tm st, evalCode C F15 (.loop [1, 3, 4] [1] b60_0) s0 = some (.ret, ⟨(2, .bool false) :: tm, st⟩)) := by
  have hg : (0 : Int) ≤ (i : Int) ∧ (ins.map InM.v)[Int.toNat (i : Int)]? = some (inC w ins[i].vo ins[i].sq ins[i].sc (ins[i].wi.map rowV)) := ⟨by omega, by rw [getElem_map hi, hv]⟩
  have lw : (ins[i].wi.map rowV).length = ins[i].wi.length := List.length_map ..
  have step : ∀ (k : Nat) (hk : k < ins[i].wi.length), longB ins[i].wi[k] = false → ∃ s', evalCode C F15 b60_0 (fS (txc ve lo (ins.map InM.v) ov) i k) = some (.normal, s') ∧ clean [1, 3, 4] [1] s' = fS (txc ve lo (ins.map InM.v) ov) i (k + 1) := fun k hk hb => by
    refine body_to (fb ve lo ins[i].vo ins[i].sq (ins.map InM.v) ov i k ins[i].sc ins[i].wi[k] w (ins[i].wi.map rowV) C) ⟨hg, by rw [lw]; simpa using hk, hg, ⟨by omega, by rw [getElem_map hk]⟩, by rw [longB_eq]; exact hb, trivial⟩ ?_
    rw [wrap_succ k (by omega)]; rfl
  rcases first longB ins[i].wi with h | ⟨k, hk, h1, h2⟩
  · refine .inl ⟨by rw [List.any_eq_false]; intro x hx; rw [h x hx]; simp, ?_⟩
    have hex := exitP_sound (fx ve lo ins[i].vo ins[i].sq (ins.map InM.v) ov i ins[i].sc w (ins[i].wi.map rowV) C) ⟨hg, by simp, trivial⟩
    rw [lw] at hex
    have := ev_loop (fun k => fS (txc ve lo (ins.map InM.v) ov) i k) ins[i].wi.length h0 (fun k hk => step k hk (h _ (List.getElem_mem hk))) hex (by simp) (by unfold F15; omega)
    rw [this]; simp only [fXT, lw]; rfl
  · refine .inr ⟨List.any_eq_true.2 ⟨_, List.getElem_mem hk, h1⟩, ?_⟩
    exact ⟨_, _, ev_loop (fun k => fS (txc ve lo (ins.map InM.v) ov) i k) k h0 (fun j hj => step j (by omega) (h2 j hj)) (exitP_sound (ff ve lo ins[i].vo ins[i].sq (ins.map InM.v) ov i k ins[i].sc ins[i].wi[k] w (ins[i].wi.map rowV) C) ⟨hg, by rw [lw]; simpa using hk, hg, ⟨by omega, by rw [getElem_map hk]⟩, by rw [longB_eq]; exact h1, trivial⟩) (by simp) (by unfold F15; omega)⟩
def dX (t iv : List V) : St := ⟨(32, .bool (decide ((iv.length : Int) < (iv.length : Int)))) :: (31, .int .i64 iv.length) :: (30, .slc 36 iv .none) :: (29, .ptr (.loc 1 0) 1) :: (28, .int .i64 iv.length) :: (dS t iv.length).tm, (dS t iv.length).st⟩
def gX (t ov : List V) : St := ⟨(79, .bool (decide ((ov.length : Int) < (ov.length : Int)))) :: (78, .int .i64 ov.length) :: (77, .slc 2 ov .none) :: (76, .ptr (.loc 1 0) 2) :: (75, .int .i64 ov.length) :: (gS t ov.length).tm, (gS t ov.length).st⟩
theorem ins60 (ve lo : Int) (ov : List V) (ins : List InM) (h : insOk ins) (C : FuncId → Option Contract) {s0 : St} (h0 : clean [1, 3] [1] s0 = dS (txc ve lo (ins.map InM.v) ov) 0) :
    (ins.any badIn = false ∧ evalCode C F15 (.loop [1, 3] [1] b60_1) s0 = some (.exit 0, dX (txc ve lo (ins.map InM.v) ov) (ins.map InM.v))) ∨ (ins.any badIn = true ∧ ∃ tm st, evalCode C F15 (.loop [1, 3] [1] b60_1) s0 = some (.ret, ⟨(2, .bool false) :: tm, st⟩)) := by
  obtain ⟨hok, hlen⟩ := h
  have lm : (ins.map InM.v).length = ins.length := List.length_map ..
  have step : ∀ (i : Nat) (hi : i < ins.length), badIn ins[i] = false → ∃ s', evalCode C F15 b60_1 (dS (txc ve lo (ins.map InM.v) ov) i) = some (.normal, s') ∧ clean [1, 3] [1] s' = dS (txc ve lo (ins.map InM.v) ov) (i + 1) := fun i hi hb => by
    have hx := hok _ (List.getElem_mem hi)
    obtain ⟨w, hw⟩ := p32_of hx.1 hx.2
    have hv := InM.v_eq ins[i] hw
    simp only [badIn, Bool.or_eq_false_iff] at hb
    obtain ⟨⟨b1, b2⟩, b3⟩ := hb
    have hwl : ins[i].wi.length ≤ 1000000 := by simp only [decide_eq_false_iff_not] at b2; omega
    have lw : (ins[i].wi.map rowV).length = ins[i].wi.length := List.length_map ..
    have b2' : decide (((ins[i].wi.map rowV).length : Int) > 10) = false := by rw [lw]; exact b2
    have b1' : decide ((ins[i].sc.length : Int) > 500) = false := b1
    have hg : (0 : Int) ≤ (i : Int) ∧ (ins.map InM.v)[Int.toNat (i : Int)]? = some (inC w ins[i].vo ins[i].sq ins[i].sc (ins[i].wi.map rowV)) := ⟨by omega, by rw [getElem_map hi, hv]⟩
    have hlp : ∀ {s0 : St}, clean [1, 3, 4] [1] s0 = fS (txc ve lo (ins.map InM.v) ov) i 0 → evalCode C F15 (.loop [1, 3, 4] [1] b60_0) s0 = some (.exit 2, fXT (txc ve lo (ins.map InM.v) ov) i w ins[i].vo ins[i].sq ins[i].sc (ins.map InM.v) (ins[i].wi.map rowV)) := fun h0 => by
      rcases wit60 ve lo ov ins i hi w hv hwl C h0 with ⟨_, h⟩ | ⟨h, _⟩
      · exact h
      · rw [h] at b3; cases b3
    refine body_to (db ve lo ins[i].vo ins[i].sq (ins.map InM.v) ov i ins[i].sc w (ins[i].wi.map rowV) C) ⟨by rw [lm]; simpa using hi, hg, b1', b1', b1', b1', hg, b1', b1', b1', b1', b1', b2', hlp rfl, trivial⟩ ?_
    rw [wrap_succ i (by omega)]; rfl
  rcases first badIn ins with h | ⟨k, hk, h1, h2⟩
  · refine .inl ⟨by rw [List.any_eq_false]; intro x hx; rw [h x hx]; simp, ?_⟩
    have hex := exitP_sound (dx ve lo (ins.map InM.v) ov C) ⟨by simp, trivial⟩
    rw [lm] at hex
    have := ev_loop (fun i => dS (txc ve lo (ins.map InM.v) ov) i) ins.length h0 (fun i hi => step i hi (h _ (List.getElem_mem hi))) hex (by simp) (by unfold F15; omega)
    rw [this]; simp only [dX, lm]; rfl
  · refine .inr ⟨List.any_eq_true.2 ⟨_, List.getElem_mem hk, h1⟩, ?_⟩
    have hx := hok _ (List.getElem_mem hk)
    obtain ⟨w, hw⟩ := p32_of hx.1 hx.2
    have hv := InM.v_eq ins[k] hw
    have lw : (ins[k].wi.map rowV).length = ins[k].wi.length := List.length_map ..
    have hg : (0 : Int) ≤ (k : Int) ∧ (ins.map InM.v)[Int.toNat (k : Int)]? = some (inC w ins[k].vo ins[k].sq ins[k].sc (ins[k].wi.map rowV)) := ⟨by omega, by rw [getElem_map hk, hv]⟩
    have hlt : decide ((k : Int) < ((ins.map InM.v).length : Int)) = true := by rw [lm]; simpa using hk
    have fin : ∀ {tm : Tm} {st : Store}, evalCode C F15 b60_1 (dS (txc ve lo (ins.map InM.v) ov) k) = some (.ret, ⟨(2, .bool false) :: tm, st⟩) → ∃ tm st, evalCode C F15 (.loop [1, 3] [1] b60_1) s0 = some (.ret, ⟨(2, .bool false) :: tm, st⟩) := fun he =>
      ⟨_, _, ev_loop (fun i => dS (txc ve lo (ins.map InM.v) ov) i) k h0 (fun i hi => step i (by omega) (h2 i hi)) he (by simp) (by unfold F15; omega)⟩
    by_cases b1 : longB ins[k].sc = true
    · have b1' : decide ((ins[k].sc.length : Int) > 500) = true := b1
      exact fin (exitP_sound (d1 ve lo ins[k].vo ins[k].sq (ins.map InM.v) ov k ins[k].sc w (ins[k].wi.map rowV) C) ⟨hlt, hg, b1', b1', b1', b1', b1', b1', b1', b1', b1', rfl, trivial⟩)
    · have b1f : longB ins[k].sc = false := by simpa using b1
      have b1' : decide ((ins[k].sc.length : Int) > 500) = false := b1f
      by_cases b2 : decide (((ins[k].wi.map rowV).length : Int) > 10) = true
      · exact fin (exitP_sound (d2 ve lo ins[k].vo ins[k].sq (ins.map InM.v) ov k ins[k].sc w (ins[k].wi.map rowV) C) ⟨hlt, hg, b1', b1', b1', b1', hg, b1', b1', b1', b1', b1', b2, trivial⟩)
      · have b2' : decide (((ins[k].wi.map rowV).length : Int) > 10) = false := by simpa using b2
        have b2'' : decide ((ins[k].wi.length : Int) > 10) = false := by rw [lw] at b2'; exact b2'
        have hwl : ins[k].wi.length ≤ 1000000 := by simp only [decide_eq_false_iff_not] at b2''; omega
        have b3 : ins[k].wi.any longB = true := by
          simp only [badIn, b1f, b2'', Bool.false_or] at h1; exact h1
        have hlp : ∀ {s0 : St}, clean [1, 3, 4] [1] s0 = fS (txc ve lo (ins.map InM.v) ov) k 0 → ∀ {P : Prop}, (∀ tm st, evalCode C F15 (.loop [1, 3, 4] [1] b60_0) s0 = some (.ret, ⟨(2, .bool false) :: tm, st⟩) → P) → P := fun h0 P hP => by
          rcases wit60 ve lo ov ins k hk w hv hwl C h0 with ⟨h, _⟩ | ⟨_, tm, st, h⟩
          · rw [h] at b3; cases b3
          · exact hP _ _ h
        refine hlp ?_ fun tm st hl => fin (exitP_sound (d0 ve lo ins[k].vo ins[k].sq (ins.map InM.v) ov k ins[k].sc w (ins[k].wi.map rowV) _ C) ⟨hlt, hg, b1', b1', b1', b1', hg, b1', b1', b1', b1', b1', b2', hl, trivial⟩)
        rfl
theorem outs60 (ve lo : Int) (iv : List V) (outs : List OutM) (hlen : outs.length ≤ 1000000) (C : FuncId → Option Contract) {s0 : St} (h0 : clean [1, 5] [1] s0 = gS (txc ve lo iv (outs.map OutM.v)) 0) :
    (outs.any badOut = false ∧ evalCode C F15 (.loop [1, 5] [1] b60_2) s0 = some (.exit 4, gX (txc ve lo iv (outs.map OutM.v)) (outs.map OutM.v))) ∨ (outs.any badOut = true ∧ ∃ tm st, evalCode C F15 (.loop [1, 5] [1] b60_2) s0 = some (.ret, ⟨(2, .bool false) :: tm, st⟩)) := by
  have lm : (outs.map OutM.v).length = outs.length := List.length_map ..
  have hg : ∀ (i : Nat) (hi : i < outs.length), (0 : Int) ≤ (i : Int) ∧ (outs.map OutM.v)[Int.toNat (i : Int)]? = some (V.agg [.int .u64 outs[i].va, rowV outs[i].sc]) := fun i hi => ⟨by omega, by rw [getElem_map hi]; rfl⟩
  have step : ∀ (i : Nat) (hi : i < outs.length), badOut outs[i] = false → ∃ s', evalCode C F15 b60_2 (gS (txc ve lo iv (outs.map OutM.v)) i) = some (.normal, s') ∧ clean [1, 5] [1] s' = gS (txc ve lo iv (outs.map OutM.v)) (i + 1) := fun i hi hb => by
    refine body_to (gb ve lo outs[i].va iv (outs.map OutM.v) outs[i].sc i C) ⟨by rw [lm]; simpa using hi, hg i hi, hb, trivial⟩ ?_
    rw [wrap_succ i (by omega)]; rfl
  rcases first badOut outs with h | ⟨k, hk, h1, h2⟩
  · refine .inl ⟨by rw [List.any_eq_false]; intro x hx; rw [h x hx]; simp, ?_⟩
    have hex := exitP_sound (gx ve lo iv (outs.map OutM.v) C) ⟨by simp, trivial⟩
    rw [lm] at hex
    have := ev_loop (fun i => gS (txc ve lo iv (outs.map OutM.v)) i) outs.length h0 (fun i hi => step i hi (h _ (List.getElem_mem hi))) hex (by simp) (by unfold F15; omega)
    rw [this]; simp only [gX, lm]; rfl
  · refine .inr ⟨List.any_eq_true.2 ⟨_, List.getElem_mem hk, h1⟩, ?_⟩
    exact ⟨_, _, ev_loop (fun i => gS (txc ve lo iv (outs.map OutM.v)) i) k h0 (fun i hi => step i (by omega) (h2 i hi)) (exitP_sound (gf ve lo outs[k].va iv (outs.map OutM.v) outs[k].sc k C) ⟨by rw [lm]; simpa using hk, hg k hk, h1, trivial⟩) (by simp) (by unfold F15; omega)⟩
theorem e1 (ve lo : Int) (iv ov : List V) (C : FuncId → Option Contract) : a60.runP F15 C [.agg (txc ve lo iv ov)] [] [.g true, .g true, .g true, .g true, .k true, .g true, .g true, .g true, .g true, .k true, .g true, .g true, .g true, .g true, .k true, .b true] =
    some
  ((V.bool false, [], []),
    [decide ((↑(List.length iv) : Int) < (1 : Int)) = true, decide ((↑(List.length iv) : Int) < (1 : Int)) = true,
      decide ((↑(List.length iv) : Int) < (1 : Int)) = true, decide ((↑(List.length iv) : Int) < (1 : Int)) = true,
      decide ((↑(List.length iv) : Int) < (1 : Int)) = true, true = true, true = true, true = true, true = true,
      true = true, true = true, true = true, true = true, true = true, true = true, true = true]) := by kernel_rfl
theorem e2 (ve lo : Int) (iv ov : List V) (C : FuncId → Option Contract) : a60.runP F15 C [.agg (txc ve lo iv ov)] [] [.g false, .g false, .g false, .g false, .k false, .g true, .g true, .g true, .g true, .k true, .g true, .g true, .g true, .g true, .k true, .b true] =
    some
  ((V.bool false, [], []),
    [decide ((↑(List.length iv) : Int) < (1 : Int)) = false, decide ((↑(List.length iv) : Int) < (1 : Int)) = false,
      decide ((↑(List.length iv) : Int) < (1 : Int)) = false, decide ((↑(List.length iv) : Int) < (1 : Int)) = false,
      decide ((↑(List.length iv) : Int) < (1 : Int)) = false, decide ((↑(List.length iv) : Int) > (50 : Int)) = true,
      decide ((↑(List.length iv) : Int) > (50 : Int)) = true, decide ((↑(List.length iv) : Int) > (50 : Int)) = true,
      decide ((↑(List.length iv) : Int) > (50 : Int)) = true, decide ((↑(List.length iv) : Int) > (50 : Int)) = true,
      true = true, true = true, true = true, true = true, true = true, true = true]) := by kernel_rfl
theorem e3 (ve lo : Int) (iv ov : List V) (C : FuncId → Option Contract) : a60.runP F15 C [.agg (txc ve lo iv ov)] [] [.g false, .g false, .g false, .g false, .k false, .g false, .g false, .g false, .g false, .k false, .g true, .g true, .g true, .g true, .k true, .b true] =
    some
  ((V.bool false, [], []),
    [decide ((↑(List.length iv) : Int) < (1 : Int)) = false, decide ((↑(List.length iv) : Int) < (1 : Int)) = false,
      decide ((↑(List.length iv) : Int) < (1 : Int)) = false, decide ((↑(List.length iv) : Int) < (1 : Int)) = false,
      decide ((↑(List.length iv) : Int) < (1 : Int)) = false, decide ((↑(List.length iv) : Int) > (50 : Int)) = false,
      decide ((↑(List.length iv) : Int) > (50 : Int)) = false, decide ((↑(List.length iv) : Int) > (50 : Int)) = false,
      decide ((↑(List.length iv) : Int) > (50 : Int)) = false, decide ((↑(List.length iv) : Int) > (50 : Int)) = false,
      decide ((↑(List.length ov) : Int) < (1 : Int)) = true, decide ((↑(List.length ov) : Int) < (1 : Int)) = true,
      decide ((↑(List.length ov) : Int) < (1 : Int)) = true, decide ((↑(List.length ov) : Int) < (1 : Int)) = true,
      decide ((↑(List.length ov) : Int) < (1 : Int)) = true, true = true]) := by kernel_rfl
theorem e4 (ve lo : Int) (iv ov : List V) (C : FuncId → Option Contract) : a60.runP F15 C [.agg (txc ve lo iv ov)] [] [.g false, .g false, .g false, .g false, .k false, .g false, .g false, .g false, .g false, .k false, .g false, .g false, .g false, .g false, .k false, .b true] =
    some
  ((V.bool false, [], []),
    [decide ((↑(List.length iv) : Int) < (1 : Int)) = false, decide ((↑(List.length iv) : Int) < (1 : Int)) = false,
      decide ((↑(List.length iv) : Int) < (1 : Int)) = false, decide ((↑(List.length iv) : Int) < (1 : Int)) = false,
      decide ((↑(List.length iv) : Int) < (1 : Int)) = false, decide ((↑(List.length iv) : Int) > (50 : Int)) = false,
      decide ((↑(List.length iv) : Int) > (50 : Int)) = false, decide ((↑(List.length iv) : Int) > (50 : Int)) = false,
      decide ((↑(List.length iv) : Int) > (50 : Int)) = false, decide ((↑(List.length iv) : Int) > (50 : Int)) = false,
      decide ((↑(List.length ov) : Int) < (1 : Int)) = false, decide ((↑(List.length ov) : Int) < (1 : Int)) = false,
      decide ((↑(List.length ov) : Int) < (1 : Int)) = false, decide ((↑(List.length ov) : Int) < (1 : Int)) = false,
      decide ((↑(List.length ov) : Int) < (1 : Int)) = false, decide ((↑(List.length ov) : Int) > (50 : Int)) = true]) := by kernel_rfl
theorem e5 (ve lo : Int) (iv ov : List V) (s : St) (C : FuncId → Option Contract) : a60.runP F15 C [.agg (txc ve lo iv ov)] [] [.g false, .g false, .g false, .g false, .k false, .g false, .g false, .g false, .g false, .k false, .g false, .g false, .g false, .g false, .k false, .b false, .loop .ret ⟨(2, .bool false) :: s.tm, s.st⟩] =
    some
  ((V.bool false, [], []),
    [decide ((↑(List.length iv) : Int) < (1 : Int)) = false, decide ((↑(List.length iv) : Int) < (1 : Int)) = false,
      decide ((↑(List.length iv) : Int) < (1 : Int)) = false, decide ((↑(List.length iv) : Int) < (1 : Int)) = false,
      decide ((↑(List.length iv) : Int) < (1 : Int)) = false, decide ((↑(List.length iv) : Int) > (50 : Int)) = false,
      decide ((↑(List.length iv) : Int) > (50 : Int)) = false, decide ((↑(List.length iv) : Int) > (50 : Int)) = false,
      decide ((↑(List.length iv) : Int) > (50 : Int)) = false, decide ((↑(List.length iv) : Int) > (50 : Int)) = false,
      decide ((↑(List.length ov) : Int) < (1 : Int)) = false, decide ((↑(List.length ov) : Int) < (1 : Int)) = false,
      decide ((↑(List.length ov) : Int) < (1 : Int)) = false, decide ((↑(List.length ov) : Int) < (1 : Int)) = false,
      decide ((↑(List.length ov) : Int) < (1 : Int)) = false, decide ((↑(List.length ov) : Int) > (50 : Int)) = false,
      evalCode C F15 (ACode.loop [(1 : Nat), (3 : Nat)] [(1 : Nat)] b60_1)
          (St.mk
            [((3 : Nat), V.int IntKind.i64 (0 : Int)),
              ((27 : Nat), V.bool (decide ((↑(List.length ov) : Int) > (50 : Int)))),
              ((26 : Nat), V.bool (decide ((↑(List.length ov) : Int) > (50 : Int)))),
              ((25 : Nat), V.int IntKind.i64 (↑(List.length ov) : Int)), ((24 : Nat), V.slc (2 : Nat) ov Own.none),
              ((23 : Nat), V.ptr (Key.loc (1 : Nat) (0 : Nat)) (2 : Nat)),
              ((22 : Nat), V.bool (decide ((↑(List.length ov) : Int) < (1 : Int)))),
              ((21 : Nat), V.bool (decide ((↑(List.length ov) : Int) < (1 : Int)))),
              ((20 : Nat), V.bool (decide ((↑(List.length ov) : Int) < (1 : Int)))),
              ((19 : Nat), V.int IntKind.i64 (↑(List.length ov) : Int)), ((18 : Nat), V.slc (2 : Nat) ov Own.none),
              ((17 : Nat), V.ptr (Key.loc (1 : Nat) (0 : Nat)) (2 : Nat)),
              ((16 : Nat), V.bool (decide ((↑(List.length iv) : Int) > (50 : Int)))),
              ((15 : Nat), V.bool (decide ((↑(List.length iv) : Int) > (50 : Int)))),
              ((14 : Nat), V.bool (decide ((↑(List.length iv) : Int) > (50 : Int)))),
              ((13 : Nat), V.int IntKind.i64 (↑(List.length iv) : Int)), ((12 : Nat), V.slc (36 : Nat) iv Own.none),
              ((11 : Nat), V.ptr (Key.loc (1 : Nat) (0 : Nat)) (1 : Nat)),
              ((10 : Nat), V.bool (decide ((↑(List.length iv) : Int) < (1 : Int)))),
              ((9 : Nat), V.bool (decide ((↑(List.length iv) : Int) < (1 : Int)))),
              ((8 : Nat), V.int IntKind.i64 (↑(List.length iv) : Int)), ((7 : Nat), V.slc (36 : Nat) iv Own.none),
              ((6 : Nat), V.ptr (Key.loc (1 : Nat) (0 : Nat)) (1 : Nat)), ((2 : Nat), V.bool false),
              ((1 : Nat), V.ptr (Key.loc (1 : Nat) (0 : Nat)) (0 : Nat)), ((0 : Nat), V.agg (txc ve lo iv ov))]
            [(Key.loc (1 : Nat) (0 : Nat),
                Ev.Obj.cells
                  [V.int IntKind.u32 ve, V.slc (36 : Nat) iv Own.none, V.slc (2 : Nat) ov Own.none,
                    V.int IntKind.u32 lo])]) =
        some (Ex.ret, St.mk (((2 : Nat), V.bool false) :: s.1) s.2)]) := by kernel_rfl
theorem e6 (ve lo : Int) (iv ov : List V) (s : St) (C : FuncId → Option Contract) : a60.runP F15 C [.agg (txc ve lo iv ov)] [] [.g false, .g false, .g false, .g false, .k false, .g false, .g false, .g false, .g false, .k false, .g false, .g false, .g false, .g false, .k false, .b false, .loop (.exit 0) (dX (txc ve lo iv ov) iv), .loop .ret ⟨(2, .bool false) :: s.tm, s.st⟩] =
    some
  ((V.bool false, [], []),
    [decide ((↑(List.length iv) : Int) < (1 : Int)) = false, decide ((↑(List.length iv) : Int) < (1 : Int)) = false,
      decide ((↑(List.length iv) : Int) < (1 : Int)) = false, decide ((↑(List.length iv) : Int) < (1 : Int)) = false,
      decide ((↑(List.length iv) : Int) < (1 : Int)) = false, decide ((↑(List.length iv) : Int) > (50 : Int)) = false,
      decide ((↑(List.length iv) : Int) > (50 : Int)) = false, decide ((↑(List.length iv) : Int) > (50 : Int)) = false,
      decide ((↑(List.length iv) : Int) > (50 : Int)) = false, decide ((↑(List.length iv) : Int) > (50 : Int)) = false,
      decide ((↑(List.length ov) : Int) < (1 : Int)) = false, decide ((↑(List.length ov) : Int) < (1 : Int)) = false,
      decide ((↑(List.length ov) : Int) < (1 : Int)) = false, decide ((↑(List.length ov) : Int) < (1 : Int)) = false,
      decide ((↑(List.length ov) : Int) < (1 : Int)) = false, decide ((↑(List.length ov) : Int) > (50 : Int)) = false,
      evalCode C F15 (ACode.loop [(1 : Nat), (3 : Nat)] [(1 : Nat)] b60_1)
          (St.mk
            [((3 : Nat), V.int IntKind.i64 (0 : Int)),
              ((27 : Nat), V.bool (decide ((↑(List.length ov) : Int) > (50 : Int)))),
              ((26 : Nat), V.bool (decide ((↑(List.length ov) : Int) > (50 : Int)))),
              ((25 : Nat), V.int IntKind.i64 (↑(List.length ov) : Int)), ((24 : Nat), V.slc (2 : Nat) ov Own.none),
              ((23 : Nat), V.ptr (Key.loc (1 : Nat) (0 : Nat)) (2 : Nat)),
              ((22 : Nat), V.bool (decide ((↑(List.length ov) : Int) < (1 : Int)))),
              ((21 : Nat), V.bool (decide ((↑(List.length ov) : Int) < (1 : Int)))),
              ((20 : Nat), V.bool (decide ((↑(List.length ov) : Int) < (1 : Int)))),
              ((19 : Nat), V.int IntKind.i64 (↑(List.length ov) : Int)), ((18 : Nat), V.slc (2 : Nat) ov Own.none),
              ((17 : Nat), V.ptr (Key.loc (1 : Nat) (0 : Nat)) (2 : Nat)),
              ((16 : Nat), V.bool (decide ((↑(List.length iv) : Int) > (50 : Int)))),
              ((15 : Nat), V.bool (decide ((↑(List.length iv) : Int) > (50 : Int)))),
              ((14 : Nat), V.bool (decide ((↑(List.length iv) : Int) > (50 : Int)))),
              ((13 : Nat), V.int IntKind.i64 (↑(List.length iv) : Int)), ((12 : Nat), V.slc (36 : Nat) iv Own.none),
              ((11 : Nat), V.ptr (Key.loc (1 : Nat) (0 : Nat)) (1 : Nat)),
              ((10 : Nat), V.bool (decide ((↑(List.length iv) : Int) < (1 : Int)))),
              ((9 : Nat), V.bool (decide ((↑(List.length iv) : Int) < (1 : Int)))),
              ((8 : Nat), V.int IntKind.i64 (↑(List.length iv) : Int)), ((7 : Nat), V.slc (36 : Nat) iv Own.none),
              ((6 : Nat), V.ptr (Key.loc (1 : Nat) (0 : Nat)) (1 : Nat)), ((2 : Nat), V.bool false),
              ((1 : Nat), V.ptr (Key.loc (1 : Nat) (0 : Nat)) (0 : Nat)), ((0 : Nat), V.agg (txc ve lo iv ov))]
            [(Key.loc (1 : Nat) (0 : Nat),
                Ev.Obj.cells
                  [V.int IntKind.u32 ve, V.slc (36 : Nat) iv Own.none, V.slc (2 : Nat) ov Own.none,
                    V.int IntKind.u32 lo])]) =
        some
          (Ex.exit (0 : Nat),
            St.mk
              [((32 : Nat), V.bool (decide ((↑(List.length iv) : Int) < (↑(List.length iv) : Int)))),
                ((31 : Nat), V.int IntKind.i64 (↑(List.length iv) : Int)), ((30 : Nat), V.slc (36 : Nat) iv Own.none),
                ((29 : Nat), V.ptr (Key.loc (1 : Nat) (0 : Nat)) (1 : Nat)),
                ((28 : Nat), V.int IntKind.i64 (↑(List.length iv) : Int)),
                ((1 : Nat), V.ptr (Key.loc (1 : Nat) (0 : Nat)) (0 : Nat)),
                ((3 : Nat), V.int IntKind.i64 (↑(List.length iv) : Int))]
              [(Key.loc (1 : Nat) (0 : Nat), Ev.Obj.cells (txc ve lo iv ov))]),
      evalCode C F15 (ACode.loop [(1 : Nat), (5 : Nat)] [(1 : Nat)] b60_2)
          (St.mk
            [((5 : Nat), V.int IntKind.i64 (0 : Int)),
              ((32 : Nat), V.bool (decide ((↑(List.length iv) : Int) < (↑(List.length iv) : Int)))),
              ((31 : Nat), V.int IntKind.i64 (↑(List.length iv) : Int)), ((30 : Nat), V.slc (36 : Nat) iv Own.none),
              ((29 : Nat), V.ptr (Key.loc (1 : Nat) (0 : Nat)) (1 : Nat)),
              ((28 : Nat), V.int IntKind.i64 (↑(List.length iv) : Int)),
              ((1 : Nat), V.ptr (Key.loc (1 : Nat) (0 : Nat)) (0 : Nat)),
              ((3 : Nat), V.int IntKind.i64 (↑(List.length iv) : Int))]
            [(Key.loc (1 : Nat) (0 : Nat), Ev.Obj.cells (txc ve lo iv ov))]) =
        some (Ex.ret, St.mk (((2 : Nat), V.bool false) :: s.1) s.2)]) := by kernel_rfl
theorem e7 (ve lo : Int) (iv ov : List V) (C : FuncId → Option Contract) : a60.runP F15 C [.agg (txc ve lo iv ov)] [] [.g false, .g false, .g false, .g false, .k false, .g false, .g false, .g false, .g false, .k false, .g false, .g false, .g false, .g false, .k false, .b false, .loop (.exit 0) (dX (txc ve lo iv ov) iv), .loop (.exit 4) (gX (txc ve lo iv ov) ov)] =
    some
  ((V.bool true, [], []),
    [decide ((↑(List.length iv) : Int) < (1 : Int)) = false, decide ((↑(List.length iv) : Int) < (1 : Int)) = false,
      decide ((↑(List.length iv) : Int) < (1 : Int)) = false, decide ((↑(List.length iv) : Int) < (1 : Int)) = false,
      decide ((↑(List.length iv) : Int) < (1 : Int)) = false, decide ((↑(List.length iv) : Int) > (50 : Int)) = false,
      decide ((↑(List.length iv) : Int) > (50 : Int)) = false, decide ((↑(List.length iv) : Int) > (50 : Int)) = false,
      decide ((↑(List.length iv) : Int) > (50 : Int)) = false, decide ((↑(List.length iv) : Int) > (50 : Int)) = false,
      decide ((↑(List.length ov) : Int) < (1 : Int)) = false, decide ((↑(List.length ov) : Int) < (1 : Int)) = false,
      decide ((↑(List.length ov) : Int) < (1 : Int)) = false, decide ((↑(List.length ov) : Int) < (1 : Int)) = false,
      decide ((↑(List.length ov) : Int) < (1 : Int)) = false, decide ((↑(List.length ov) : Int) > (50 : Int)) = false,
      evalCode C F15 (ACode.loop [(1 : Nat), (3 : Nat)] [(1 : Nat)] b60_1)
          (St.mk
            [((3 : Nat), V.int IntKind.i64 (0 : Int)),
              ((27 : Nat), V.bool (decide ((↑(List.length ov) : Int) > (50 : Int)))),
              ((26 : Nat), V.bool (decide ((↑(List.length ov) : Int) > (50 : Int)))),
              ((25 : Nat), V.int IntKind.i64 (↑(List.length ov) : Int)), ((24 : Nat), V.slc (2 : Nat) ov Own.none),
              ((23 : Nat), V.ptr (Key.loc (1 : Nat) (0 : Nat)) (2 : Nat)),
              ((22 : Nat), V.bool (decide ((↑(List.length ov) : Int) < (1 : Int)))),
              ((21 : Nat), V.bool (decide ((↑(List.length ov) : Int) < (1 : Int)))),
              ((20 : Nat), V.bool (decide ((↑(List.length ov) : Int) < (1 : Int)))),
              ((19 : Nat), V.int IntKind.i64 (↑(List.length ov) : Int)), ((18 : Nat), V.slc (2 : Nat) ov Own.none),
              ((17 : Nat), V.ptr (Key.loc (1 : Nat) (0 : Nat)) (2 : Nat)),
              ((16 : Nat), V.bool (decide ((↑(List.length iv) : Int) > (50 : Int)))),
              ((15 : Nat), V.bool (decide ((↑(List.length iv) : Int) > (50 : Int)))),
              ((14 : Nat), V.bool (decide ((↑(List.length iv) : Int) > (50 : Int)))),
              ((13 : Nat), V.int IntKind.i64 (↑(List.length iv) : Int)), ((12 : Nat), V.slc (36 : Nat) iv Own.none),
              ((11 : Nat), V.ptr (Key.loc (1 : Nat) (0 : Nat)) (1 : Nat)),
              ((10 : Nat), V.bool (decide ((↑(List.length iv) : Int) < (1 : Int)))),
              ((9 : Nat), V.bool (decide ((↑(List.length iv) : Int) < (1 : Int)))),
              ((8 : Nat), V.int IntKind.i64 (↑(List.length iv) : Int)), ((7 : Nat), V.slc (36 : Nat) iv Own.none),
              ((6 : Nat), V.ptr (Key.loc (1 : Nat) (0 : Nat)) (1 : Nat)), ((2 : Nat), V.bool false),
              ((1 : Nat), V.ptr (Key.loc (1 : Nat) (0 : Nat)) (0 : Nat)), ((0 : Nat), V.agg (txc ve lo iv ov))]
            [(Key.loc (1 : Nat) (0 : Nat),
                Ev.Obj.cells
                  [V.int IntKind.u32 ve, V.slc (36 : Nat) iv Own.none, V.slc (2 : Nat) ov Own.none,
                    V.int IntKind.u32 lo])]) =
        some
          (Ex.exit (0 : Nat),
            St.mk
              [((32 : Nat), V.bool (decide ((↑(List.length iv) : Int) < (↑(List.length iv) : Int)))),
                ((31 : Nat), V.int IntKind.i64 (↑(List.length iv) : Int)), ((30 : Nat), V.slc (36 : Nat) iv Own.none),
                ((29 : Nat), V.ptr (Key.loc (1 : Nat) (0 : Nat)) (1 : Nat)),
                ((28 : Nat), V.int IntKind.i64 (↑(List.length iv) : Int)),
                ((1 : Nat), V.ptr (Key.loc (1 : Nat) (0 : Nat)) (0 : Nat)),
                ((3 : Nat), V.int IntKind.i64 (↑(List.length iv) : Int))]
              [(Key.loc (1 : Nat) (0 : Nat), Ev.Obj.cells (txc ve lo iv ov))]),
      evalCode C F15 (ACode.loop [(1 : Nat), (5 : Nat)] [(1 : Nat)] b60_2)
          (St.mk
            [((5 : Nat), V.int IntKind.i64 (0 : Int)),
              ((32 : Nat), V.bool (decide ((↑(List.length iv) : Int) < (↑(List.length iv) : Int)))),
              ((31 : Nat), V.int IntKind.i64 (↑(List.length iv) : Int)), ((30 : Nat), V.slc (36 : Nat) iv Own.none),
              ((29 : Nat), V.ptr (Key.loc (1 : Nat) (0 : Nat)) (1 : Nat)),
              ((28 : Nat), V.int IntKind.i64 (↑(List.length iv) : Int)),
              ((1 : Nat), V.ptr (Key.loc (1 : Nat) (0 : Nat)) (0 : Nat)),
              ((3 : Nat), V.int IntKind.i64 (↑(List.length iv) : Int))]
            [(Key.loc (1 : Nat) (0 : Nat), Ev.Obj.cells (txc ve lo iv ov))]) =
        some
          (Ex.exit (4 : Nat),
            St.mk
              [((79 : Nat), V.bool (decide ((↑(List.length ov) : Int) < (↑(List.length ov) : Int)))),
                ((78 : Nat), V.int IntKind.i64 (↑(List.length ov) : Int)), ((77 : Nat), V.slc (2 : Nat) ov Own.none),
                ((76 : Nat), V.ptr (Key.loc (1 : Nat) (0 : Nat)) (2 : Nat)),
                ((75 : Nat), V.int IntKind.i64 (↑(List.length ov) : Int)),
                ((1 : Nat), V.ptr (Key.loc (1 : Nat) (0 : Nat)) (0 : Nat)),
                ((5 : Nat), V.int IntKind.i64 (↑(List.length ov) : Int))]
              [(Key.loc (1 : Nat) (0 : Nat), Ev.Obj.cells (txc ve lo iv ov))])]) := by kernel_rfl
noncomputable def c60 : Contract := relC (fun t : TxM => ([t.v], [])) TxM.ok (fun t => (.bool (mayB t), [], []))
theorem run60 (t : TxM) (h : t.ok) (C : FuncId → Option Contract) : a60.run F15 C [t.v] [] = some (.bool (mayB t), [], []) := by
  have l1 : (t.ins.map InM.v).length = t.ins.length := List.length_map ..
  have l2 : (t.outs.map OutM.v).length = t.outs.length := List.length_map ..
  have em : mayB t = (!t.ins.any badIn && !t.outs.any badOut && (decide ((t.ins.length : Int) ≥ 1) && (decide ((t.ins.length : Int) ≤ 50) && (decide ((t.outs.length : Int) ≥ 1) && decide ((t.outs.length : Int) ≤ 50))))) := rfl
  by_cases c1 : ((t.ins.map InM.v).length : Int) < 1
  · have e : mayB t = false := by rw [em, show decide ((t.ins.length : Int) ≥ 1) = false by rw [decide_eq_false_iff_not]; omega]; simp
    have k1 := decide_eq_true c1
    rw [e]
    exact runP_sound (e1 t.ve t.lo (t.ins.map InM.v) (t.outs.map OutM.v) C) ⟨k1, k1, k1, k1, k1, rfl, rfl, rfl, rfl, rfl, rfl, rfl, rfl, rfl, rfl, rfl, trivial⟩
  have k1 := decide_eq_false c1
  by_cases c2 : ((t.ins.map InM.v).length : Int) > 50
  · have e : mayB t = false := by rw [em, show decide ((t.ins.length : Int) ≤ 50) = false by rw [decide_eq_false_iff_not]; omega]; simp
    have k2 := decide_eq_true c2
    rw [e]
    exact runP_sound (e2 t.ve t.lo (t.ins.map InM.v) (t.outs.map OutM.v) C) ⟨k1, k1, k1, k1, k1, k2, k2, k2, k2, k2, rfl, rfl, rfl, rfl, rfl, rfl, trivial⟩
  have k2 := decide_eq_false c2
  by_cases c3 : ((t.outs.map OutM.v).length : Int) < 1
  · have e : mayB t = false := by rw [em, show decide ((t.outs.length : Int) ≥ 1) = false by rw [decide_eq_false_iff_not]; omega]; simp
    have k3 := decide_eq_true c3
    rw [e]
    exact runP_sound (e3 t.ve t.lo (t.ins.map InM.v) (t.outs.map OutM.v) C) ⟨k1, k1, k1, k1, k1, k2, k2, k2, k2, k2, k3, k3, k3, k3, k3, rfl, trivial⟩
  have k3 := decide_eq_false c3
  by_cases c4 : ((t.outs.map OutM.v).length : Int) > 50
  · have e : mayB t = false := by rw [em, show decide ((t.outs.length : Int) ≤ 50) = false by rw [decide_eq_false_iff_not]; omega]; simp
    have k4 := decide_eq_true c4
    rw [e]
    exact runP_sound (e4 t.ve t.lo (t.ins.map InM.v) (t.outs.map OutM.v) C) ⟨k1, k1, k1, k1, k1, k2, k2, k2, k2, k2, k3, k3, k3, k3, k3, k4, trivial⟩
  have k4 := decide_eq_false c4
  have ez : mayB t = (!t.ins.any badIn && !t.outs.any badOut) := by
    rw [em, show decide ((t.ins.length : Int) ≥ 1) = true by rw [decide_eq_true_eq]; omega, show decide ((t.ins.length : Int) ≤ 50) = true by rw [decide_eq_true_eq]; omega, show decide ((t.outs.length : Int) ≥ 1) = true by rw [decide_eq_true_eq]; omega, show decide ((t.outs.length : Int) ≤ 50) = true by rw [decide_eq_true_eq]; omega]
    simp
  cases hi : t.ins.any badIn with
  | true =>
    have e : mayB t = false := by rw [ez, hi]; rfl
    rw [e]
    have hlp : ∀ {s0 : St}, clean [1, 3] [1] s0 = dS (txc t.ve t.lo (t.ins.map InM.v) (t.outs.map OutM.v)) 0 → ∀ {P : Prop}, (∀ s : St, evalCode C F15 (.loop [1, 3] [1] b60_1) s0 = some (.ret, ⟨(2, .bool false) :: s.tm, s.st⟩) → P) → P := fun h0 P hP => by
      rcases ins60 t.ve t.lo (t.outs.map OutM.v) t.ins (TxM.okIns h) C h0 with ⟨h, _⟩ | ⟨_, tm, st, h⟩
      · rw [h] at hi; cases hi
      · exact hP ⟨tm, st⟩ h
    refine hlp ?_ fun s hl => runP_sound (e5 t.ve t.lo (t.ins.map InM.v) (t.outs.map OutM.v) s C) ⟨k1, k1, k1, k1, k1, k2, k2, k2, k2, k2, k3, k3, k3, k3, k3, k4, hl, trivial⟩
    rfl
  | false =>
    have h1 : ∀ {s0 : St}, clean [1, 3] [1] s0 = dS (txc t.ve t.lo (t.ins.map InM.v) (t.outs.map OutM.v)) 0 → evalCode C F15 (.loop [1, 3] [1] b60_1) s0 = some (.exit 0, dX (txc t.ve t.lo (t.ins.map InM.v) (t.outs.map OutM.v)) (t.ins.map InM.v)) := fun h0 => by
      rcases ins60 t.ve t.lo (t.outs.map OutM.v) t.ins (TxM.okIns h) C h0 with ⟨_, h⟩ | ⟨h, _⟩
      · exact h
      · rw [h] at hi; cases hi
    cases ho : t.outs.any badOut with
    | true =>
      have e : mayB t = false := by rw [ez, hi, ho]; rfl
      rw [e]
      have hlp : ∀ {s0 : St}, clean [1, 5] [1] s0 = gS (txc t.ve t.lo (t.ins.map InM.v) (t.outs.map OutM.v)) 0 → ∀ {P : Prop}, (∀ s : St, evalCode C F15 (.loop [1, 5] [1] b60_2) s0 = some (.ret, ⟨(2, .bool false) :: s.tm, s.st⟩) → P) → P := fun h0 P hP => by
        rcases outs60 t.ve t.lo (t.ins.map InM.v) t.outs h.2.2 C h0 with ⟨h, _⟩ | ⟨_, tm, st, h⟩
        · rw [h] at ho; cases ho
        · exact hP ⟨tm, st⟩ h
      refine hlp ?_ fun s hl => runP_sound (e6 t.ve t.lo (t.ins.map InM.v) (t.outs.map OutM.v) s C) ⟨k1, k1, k1, k1, k1, k2, k2, k2, k2, k2, k3, k3, k3, k3, k3, k4, h1 (by rfl), hl, trivial⟩
      rfl
    | false =>
      have e : mayB t = true := by rw [ez, hi, ho]; rfl
      rw [e]
      have h2 : ∀ {s0 : St}, clean [1, 5] [1] s0 = gS (txc t.ve t.lo (t.ins.map InM.v) (t.outs.map OutM.v)) 0 → evalCode C F15 (.loop [1, 5] [1] b60_2) s0 = some (.exit 4, gX (txc t.ve t.lo (t.ins.map InM.v) (t.outs.map OutM.v)) (t.outs.map OutM.v)) := fun h0 => by
        rcases outs60 t.ve t.lo (t.ins.map InM.v) t.outs h.2.2 C h0 with ⟨_, h⟩ | ⟨h, _⟩
        · exact h
        · rw [h] at ho; cases ho
      exact runP_sound (e7 t.ve t.lo (t.ins.map InM.v) (t.outs.map OutM.v) C) ⟨k1, k1, k1, k1, k1, k2, k2, k2, k2, k2, k3, k3, k3, k3, k3, k4, h1 (by rfl), h2 (by rfl), trivial⟩
theorem h60' : Holds Tryd.prog G 60 c60 := (fn_holds (sound_noC (P := Tryd.prog) (G := G)) hM F15 Tryd.func60 p60 o60).less fun args objs x h => by
  obtain ⟨t, hl, he, rfl⟩ := relC_of h
  simp only [Prod.mk.injEq] at he
  obtain ⟨rfl, rfl⟩ := he
  exact run60 t hl noC
theorem call60 {C : FuncId → Option Contract} (hC : C 60 = some c60) {t : TxM} (h : t.ok) {b : Bool} (hb : mayB t = b) : callIs C 60 [t.v] [] (.bool b) [] [] := by
  simp only [callIs, hC, c60]
  rw [txC_eq (fun _ h => h) h, hb]
end Go.Proofs.YtiiohfojejfolaaDoor
