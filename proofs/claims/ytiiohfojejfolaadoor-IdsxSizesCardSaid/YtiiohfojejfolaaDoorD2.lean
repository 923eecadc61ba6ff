/-
  What is proved: what the functions of shas compute on a block, for any words and bytes (turned, spread, mix), as a function on whole numbers.
  Conditions: none.
-/
import Derived.Test.YtiiohfojejfolaaDoorD1
import Derived.KernelRfl
set_option linter.unusedVariables false
set_option linter.unusedSimpArgs false
namespace Go.Proofs.YtiiohfojejfolaaDoor
open Go Go.Ev Go.Proofs

def u32 (n : Int) : V := .int .u32 n
def u8 (n : Int) : V := .int .u8 n
def add32 (a b : Int) : Int := IntKind.u32.wrap (a + b)
def xor32 (a b : Int) : Int := IntKind.u32.wrap (BitVec.ofInt 32 a ^^^ BitVec.ofInt 32 b).toNat
def or32 (a b : Int) : Int := IntKind.u32.wrap (BitVec.ofInt 32 a ||| BitVec.ofInt 32 b).toNat
def and32 (a b : Int) : Int := IntKind.u32.wrap (BitVec.ofInt 32 a &&& BitVec.ofInt 32 b).toNat
def not32 (a : Int) : Int := IntKind.u32.wrap (BitVec.ofInt 32 4294967295 ^^^ BitVec.ofInt 32 a).toNat
def shl32 (a : Int) (n : Nat) : Int := IntKind.u32.wrap (a * 2 ^ n)
def shr32 (a : Int) (n : Nat) : Int := a.fdiv (2 ^ n)
def rotr (a : Int) (n : Nat) : Int := or32 (shl32 a (32 - n)) (shr32 a n)
structure W8 where (a b c d e f g h : Int)
def W8.l (s : W8) : List V := [u32 s.a, u32 s.b, u32 s.c, u32 s.d, u32 s.e, u32 s.f, u32 s.g, u32 s.h]
def rnd (s : W8) (k w : Int) : W8 :=
  let s1 := xor32 (xor32 (rotr s.e 6) (rotr s.e 11)) (rotr s.e 25)
  let pick := xor32 (and32 s.e s.f) (and32 (not32 s.e) s.g)
  let t1 := add32 (add32 (add32 (add32 s.h s1) pick) k) w
  let s0 := xor32 (xor32 (rotr s.a 2) (rotr s.a 13)) (rotr s.a 22)
  let most := xor32 (xor32 (and32 s.a s.b) (and32 s.a s.c)) (and32 s.b s.c)
  ⟨add32 (add32 t1 s0) most, s.a, s.b, s.c, add32 s.d t1, s.e, s.f, s.g⟩
def addW (a b : W8) : W8 := ⟨add32 a.a b.a, add32 a.b b.b, add32 a.c b.c, add32 a.d b.d, add32 a.e b.e, add32 a.f b.f, add32 a.g b.g, add32 a.h b.h⟩
def rounds (w : Nat → Int) : List Int → Nat → W8 → W8
  | [], _, s => s
  | k :: r, i, s => rounds w r (i + 1) (rnd s k (w i))
def c32 (a : Int) : Int := IntKind.u32.wrap a
def word (b : Nat → Int) (i : Nat) : Int := or32 (or32 (or32 (shl32 (c32 (b (4 * i))) 24) (shl32 (c32 (b (4 * i + 1))) 16)) (shl32 (c32 (b (4 * i + 2))) 8)) (c32 (b (4 * i + 3)))
def nextW (a15 a2 a16 a7 : Int) : Int :=
  add32 (add32 (add32 a16 (xor32 (xor32 (rotr a15 7) (rotr a15 18)) (shr32 a15 3))) a7) (xor32 (xor32 (rotr a2 17) (rotr a2 19)) (shr32 a2 10))
def grow : Nat → List Int → List Int
  | 0, l => l
  | n + 1, l => grow n (l ++ [nextW (l.getD (l.length - 15) 0) (l.getD (l.length - 2) 0) (l.getD (l.length - 16) 0) (l.getD (l.length - 7) 0)])
def sched (b : Nat → Int) : List Int := grow 48 ((List.range 16).map (word b))
def mixW (h : W8) (w : Nat → Int) : W8 := addW (rounds w cubesI 0 h) h
def wl (w : Nat → Int) : List V := (List.range 64).map fun i => u32 (w i)
def bl (b : Nat → Int) : List V := (List.range 64).map fun i => u8 (b i)

theorem hM : Tryd.prog.follows .mixedOrders = true := by kernel_rfl

/-! ### turned -/
def r132 : Contract := AFn.run 4 noC a132
theorem h132' : Holds Tryd.prog G 132 r132 := fn_holds sound_noC hM 4 Tryd.func132 p132 o132
def C132 : FuncId → Option Contract := addC noC 132 r132
theorem s132 : Sound Tryd.prog G C132 := sound_noC.add Tryd.func132 (by kernel_rfl) h132'
def c100 : Contract := fun args objs =>
  match args, objs with
  | [.int .u32 x, .int .i64 n], [] => if n = 2 ∨ n = 6 ∨ n = 7 ∨ n = 11 ∨ n = 13 ∨ n = 17 ∨ n = 18 ∨ n = 19 ∨ n = 22 ∨ n = 25 then some (.int .u32 (rotr x n.toNat), [], []) else none
  | _, _ => none
theorem h100' : Holds Tryd.prog G 100 c100 := (fn_holds s132 hM 4 Tryd.func100 p100 o100).less fun args objs x h => by
  unfold c100 at h
  split at h
  · rename_i y n
    split at h
    · rename_i hn
      cases h
      rcases hn with rfl | rfl | rfl | rfl | rfl | rfl | rfl | rfl | rfl | rfl
      · exact congrFun (show (fun x => AFn.run 4 C132 a100 [.int .u32 x, .int .i64 2] []) = (fun x => some (.int .u32 (rotr x 2), [], [])) by kernel_rfl) y
      · exact congrFun (show (fun x => AFn.run 4 C132 a100 [.int .u32 x, .int .i64 6] []) = (fun x => some (.int .u32 (rotr x 6), [], [])) by kernel_rfl) y
      · exact congrFun (show (fun x => AFn.run 4 C132 a100 [.int .u32 x, .int .i64 7] []) = (fun x => some (.int .u32 (rotr x 7), [], [])) by kernel_rfl) y
      · exact congrFun (show (fun x => AFn.run 4 C132 a100 [.int .u32 x, .int .i64 11] []) = (fun x => some (.int .u32 (rotr x 11), [], [])) by kernel_rfl) y
      · exact congrFun (show (fun x => AFn.run 4 C132 a100 [.int .u32 x, .int .i64 13] []) = (fun x => some (.int .u32 (rotr x 13), [], [])) by kernel_rfl) y
      · exact congrFun (show (fun x => AFn.run 4 C132 a100 [.int .u32 x, .int .i64 17] []) = (fun x => some (.int .u32 (rotr x 17), [], [])) by kernel_rfl) y
      · exact congrFun (show (fun x => AFn.run 4 C132 a100 [.int .u32 x, .int .i64 18] []) = (fun x => some (.int .u32 (rotr x 18), [], [])) by kernel_rfl) y
      · exact congrFun (show (fun x => AFn.run 4 C132 a100 [.int .u32 x, .int .i64 19] []) = (fun x => some (.int .u32 (rotr x 19), [], [])) by kernel_rfl) y
      · exact congrFun (show (fun x => AFn.run 4 C132 a100 [.int .u32 x, .int .i64 22] []) = (fun x => some (.int .u32 (rotr x 22), [], [])) by kernel_rfl) y
      · exact congrFun (show (fun x => AFn.run 4 C132 a100 [.int .u32 x, .int .i64 25] []) = (fun x => some (.int .u32 (rotr x 25), [], [])) by kernel_rfl) y
    · cases h
  · cases h
def C100 : FuncId → Option Contract := addC C132 100 c100
theorem s100 : Sound Tryd.prog G C100 := s132.add Tryd.func100 (by kernel_rfl) h100'

/-! ### bytes and words as numbers -/
def isU (k : IntKind) : V → Bool
  | .int k' _ => decide (k' = k)
  | _ => false
def numOf : V → Int
  | .int _ n => n
  | _ => 0
/-- So many cells of a kind. -/
def kinds (k : IntKind) (xs : List V) : Bool := xs.all (isU k)
theorem kinds_map {k : IntKind} {xs : List V} (h : kinds k xs = true) : xs = (xs.map numOf).map (V.int k) := by
  induction xs with
  | nil => rfl
  | cons x r ih =>
    simp only [kinds, List.all_cons, Bool.and_eq_true] at h
    have := ih (by simpa [kinds] using h.2)
    simp only [List.map_cons]
    rw [← this]
    congr 1
    cases x <;> simp [isU] at h
    simp [numOf, h.1]
theorem list_range {α : Type} {xs : List α} {n : Nat} (h : xs.length = n) (d : α) : xs = (List.range n).map fun i => xs.getD i d := by
  apply List.ext_getElem
  · simp [h]
  · intro i h1 h2
    simp [List.getD_eq_getElem?_getD, h1]

/-! ### spread -/
theorem f99 : (fun (b : Nat → Int) => AFn.run 100 C100 a99 [.slc 1 (bl b) .none] []) = fun b => some (.agg ((sched b).map u32), [], []) := by kernel_rfl
theorem sched_len (b : Nat → Int) : (sched b).length = 64 := by
  have : (fun (b : Nat → Int) => (sched b).length) = fun _ => 64 := by kernel_rfl
  exact congrFun this b
/-- The words of a block of bytes. -/
def schedAt (xs : List V) (i : Nat) : Int := (sched fun j => (xs.map numOf).getD j 0).getD i 0
theorem bl_of {xs : List V} (h1 : kinds .u8 xs = true) (h2 : xs.length = 64) : xs = bl fun i => (xs.map numOf).getD i 0 := by
  have h1 := kinds_map h1
  have h2 := list_range (xs := xs.map numOf) (n := 64) (by simpa using h2) 0
  unfold bl
  conv => lhs; rw [h1, h2]
  rw [List.map_map]
  rfl
def c99 : Contract := fun args objs =>
  match args, objs with
  | [.slc 1 xs .none], [] => if kinds .u8 xs = true ∧ xs.length = 64 then some (.agg (wl (schedAt xs)), [], []) else none
  | _, _ => none
theorem h99' : Holds Tryd.prog G 99 c99 := (fn_holds s100 hM 100 Tryd.func99 p99 o99).less fun args objs x h => by
  unfold c99 at h
  split at h
  · rename_i xs
    split at h
    · rename_i hx
      cases h
      have hb := bl_of hx.1 hx.2
      have := congrFun f99 (fun i => (xs.map numOf).getD i 0)
      rw [← hb] at this
      have he : (sched fun i => (xs.map numOf).getD i 0).map u32 = wl (schedAt xs) := by
        rw [list_range (xs := sched fun i => (xs.map numOf).getD i 0) (sched_len _) 0, List.map_map]
        rfl
      rw [he] at this
      exact this
    · cases h
  · cases h
def C99 : FuncId → Option Contract := addC C100 99 c99
theorem s99 : Sound Tryd.prog G C99 := s100.add Tryd.func99 (by kernel_rfl) h99'

/-! ### mix -/
theorem f53 : (fun (h : W8) (b : Nat → Int) => AFn.run 100 C99 a53 [.agg h.l, .slc 1 (bl b) .none] []) = fun h b => some (.agg (mixW h (schedAt (bl b))).l, [], []) := by kernel_rfl
def toW (hs : List V) : W8 :=
  ⟨numOf (hs.getD 0 .undef), numOf (hs.getD 1 .undef), numOf (hs.getD 2 .undef), numOf (hs.getD 3 .undef), numOf (hs.getD 4 .undef), numOf (hs.getD 5 .undef), numOf (hs.getD 6 .undef), numOf (hs.getD 7 .undef)⟩
theorem toW_l {hs : List V} (h1 : kinds .u32 hs = true) (h2 : hs.length = 8) : hs = (toW hs).l := by
  match hs, h2 with
  | [a, b, c, d, e, f, g, h], _ =>
    simp only [kinds, List.all_cons, List.all_nil, Bool.and_eq_true, Bool.and_true] at h1
    obtain ⟨h1, h2, h3, h4, h5, h6, h7, h8⟩ := h1
    have key : ∀ {v : V}, isU .u32 v = true → v = u32 (numOf v) := fun {v} hv => by
      cases v <;> simp [isU] at hv
      simp [u32, numOf, hv]
    simp only [toW, W8.l, List.getD_eq_getElem?_getD]
    simp only [List.getElem?_cons_zero, List.getElem?_cons_succ, Option.getD_some]
    rw [← key h1, ← key h2, ← key h3, ← key h4, ← key h5, ← key h6, ← key h7, ← key h8]
def c53 : Contract := fun args objs =>
  match args, objs with
  | [.agg hs, .slc 1 xs .none], [] => if kinds .u32 hs = true ∧ hs.length = 8 ∧ kinds .u8 xs = true ∧ xs.length = 64 then some (.agg (mixW (toW hs) (schedAt xs)).l, [], []) else none
  | _, _ => none
theorem h53' : Holds Tryd.prog G 53 c53 := (fn_holds s99 hM 100 Tryd.func53 p53 o53).less fun args objs x h => by
  unfold c53 at h
  split at h
  · rename_i hs xs
    split at h
    · rename_i hx
      cases h
      have hb := bl_of hx.2.2.1 hx.2.2.2
      have hh := toW_l hx.1 hx.2.1
      have := congrFun (congrFun f53 (toW hs)) (fun i => (xs.map numOf).getD i 0)
      rw [← hb, ← hh] at this
      exact this
    · cases h
  · cases h
def C53 : FuncId → Option Contract := addC C99 53 c53
theorem s53 : Sound Tryd.prog G C53 := s99.add Tryd.func53 (by kernel_rfl) h53'
end Go.Proofs.YtiiohfojejfolaaDoor
