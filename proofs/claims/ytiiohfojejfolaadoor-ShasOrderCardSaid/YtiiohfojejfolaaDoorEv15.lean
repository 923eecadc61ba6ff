/-
  Texts and bytes, copies, the least and the greatest: on plain values and in memory.
-/
import Derived.Test.YtiiohfojejfolaaDoorEv14
set_option linter.unusedVariables false
set_option linter.unusedSimpArgs false
namespace Go.Ev
open Go
section
variable {P : Program} {w : World} {F : Frz} {μ : Mu} {σ : Store}

theorem good_bytesOf {s d e : TypeId} {b : ByteArray} (hI : Inv F μ σ w) (hs : P.underlying s = some .string) (hd : P.underlying d = some (.slice e)) (he : P.underlying e = some (.int .u8)) (hb : b.size ≤ 1099511627776) :
    Good P (do pure (.value (← convert s d (.string b)))) F μ σ w ⟨.slc 1 (bytesV b) .none, []⟩ := by
  obtain ⟨c, hc1, hc2⟩ := run_choose_cap (P := P) (w := w) (need := b.size) (old := 0) (e := e) (by omega)
  have hrel : rels F noMu ((bytesV b).flatMap V.cellsOf) (b.toList.map fun x => .int .u8 x.toNat) ∧ ∀ x ∈ bytesV b, x.cellsOf.length = 1 := by
    unfold bytesV
    generalize b.toList = l
    induction l with
    | nil => simp [rels]
    | cons x r ih =>
      simp only [List.map_cons, List.flatMap_cons, V.cellsOf, List.singleton_append, List.mem_cons, forall_eq_or_imp]
      exact ⟨⟨_, _, rfl, by simp [rel], ih.1⟩, by simp, ih.2⟩
  have hlen : (bytesV b).length = b.size := by simp [bytesV, ByteArray.toList_eq]
  let cells : Array Value := b.data.map (fun x => Value.int .u8 x.toNat) ++ Array.replicate (c - b.size) (Value.int .u8 0)
  have hcl : cells = (b.toList.map (fun x => Value.int .u8 x.toNat) ++ List.replicate (c - b.size) (Value.int .u8 0)).toArray := by
    apply Array.ext'; simp [cells, ByteArray.toList_eq]
  have hpost := Post.newRow (w' := { w with drawn := w.drawn + 1, heap := w.heap.push (.cells cells e (cells.size, cells.size + 1)) }) hI (b.toList.map fun x => .int .u8 x.toNat) (List.replicate (c - b.size) (.int .u8 0)) e (cells.size, cells.size + 1)
    (fun u hu => by simp only [List.mem_map] at hu; obtain ⟨x, _, rfl⟩ := hu; rfl) (by rw [hcl]) rfl rfl
  refine ⟨.slice (some ⟨w.heap.size, 0, none⟩) b.size c, _, _, μ, .inl ?_, hpost, ?_⟩
  · have hm : (markStringish ⟨w.heap.size, 0, none⟩).run P { w with drawn := w.drawn + 1, heap := w.heap.push (.cells cells e) } = .ok () { w with drawn := w.drawn + 1, heap := w.heap.push (.cells cells e (cells.size, cells.size + 1)) } := by
      unfold markStringish
      simp only [Sem.run_bind, run_shape, Result.andThen_ok, World.shape?, Array.getElem?_push_size, run_freeze, World.freeze]
      simp only [Nat.one_ne_zero, if_false, beq_self_eq_true, if_true]
      congr 1
      congr 1
      apply Array.ext_getElem?
      intro j
      simp only [Array.getElem?_modify, Array.getElem?_push]
      by_cases hj : w.heap.size = j
      · subst hj; simp
      · simp [hj]
        have : ¬ j = w.heap.size := fun h => hj h.symm
        simp [this]
    simp only [convert, Sem.run_bind, run_underlying hs, run_underlying hd, Result.andThen_ok, run_underlying he, Conv.stringToBytes, hc2, newRow, run_newObj, Sem.run_pure]
    have := hm
    simp only [cells] at this
    rw [this]
    rfl
  · simp only [rel]
    refine ⟨some ⟨w.heap.size, 0, none⟩, c, by rw [hlen], ⟨rfl, ?_⟩, by simp [ownRel, hlen]; exact hc1⟩
    rw [frzE_iff]
    exact ⟨hrel.2, frz_put hpost.2.1.le hrel.1⟩

theorem bytesIn_cons {x : V} {xs : List V} {l : List UInt8} (h : bytesIn.go (x :: xs) = some l) : ∃ n l', x = .int .u8 n ∧ bytesIn.go xs = some l' ∧ l = UInt8.ofNat n.toNat :: l' := by
  unfold bytesIn.go at h
  split at h
  · rename_i hh; cases hh
  · rename_i n r hh
    cases hh
    simp only [Option.map_eq_some_iff] at h
    obtain ⟨l', hl', rfl⟩ := h
    exact ⟨n, l', rfl, hl', rfl⟩
  · cases h

theorem bytesIn_spec : ∀ {xs : List V} {us : List Value} {l : List UInt8}, bytesIn.go xs = some l → rels F μ xs us → us.length = l.length ∧ xs.flatMap V.cellsOf = xs ∧
    ∀ (f : Value → ByteArray → Sem (ForInStep ByteArray)), (∀ n s, f (.int .u8 n) s = pure (ForInStep.yield (s.push (UInt8.ofNat n.toNat)))) → ∀ (b : ByteArray), (forIn us b f).run P w = .ok ⟨b.data ++ l.toArray⟩ w
  | [], us, l, h, hr => by
    simp only [bytesIn.go, Option.some.injEq] at h; subst h
    simp only [rels] at hr; subst hr
    simp
  | x :: xs, us, l, h, hr => by
    obtain ⟨u, us', rfl, h1, h2⟩ := hr
    obtain ⟨n, l', rfl, hl', rfl⟩ := bytesIn_cons h
    obtain ⟨g1, g2, g3⟩ := bytesIn_spec hl' h2
    simp only [rel] at h1
    subst h1
    refine ⟨by simp [g1], by simp [V.cellsOf, g2], fun f hf b => ?_⟩
    rw [List.forIn_cons]
    simp only [hf, Sem.run_bind, Sem.run_pure, Result.andThen_ok]
    rw [g3 f hf]
    congr 2
    apply Array.ext'; simp [ByteArray.push]

theorem good_stringOf {s d e : TypeId} {x : V} {u : Value} {xs : List V} {b : ByteArray} {l l' : List Key} (hI : Inv F μ σ w) (hs : P.underlying s = some (.slice e)) (hd : P.underlying d = some .string) (he : P.underlying e = some (.int .u8))
    (hx : rel F μ x u) (hsrc : (source 1 x).run σ l = some (xs, l')) (hb : bytesIn xs = some b) (hns : ∀ q, x ≠ .str q) : Good P (do pure (.value (← convert s d u))) F μ σ w ⟨.str b, []⟩ := by
  obtain ⟨hlen, hcell, us, hus, hfirst, _⟩ := source_run (P := P) hI hx (by decide) hsrc
  simp only [bytesIn, Option.map_eq_some_iff] at hb
  obtain ⟨bl, hbl, rfl⟩ := hb
  have hself : xs.flatMap V.cellsOf = xs := by
    have : ∀ (xs : List V) (l : List UInt8), bytesIn.go xs = some l → xs.flatMap V.cellsOf = xs := fun xs => by
      induction xs with
      | nil => simp
      | cons y r ih =>
        intro l h
        obtain ⟨n, l', rfl, hl', rfl⟩ := bytesIn_cons h
        simp [V.cellsOf, ih l' hl']
    exact this xs bl hbl
  rw [hself] at hus
  obtain ⟨g1, _, g3⟩ := bytesIn_spec (P := P) (w := w) hbl hus
  have hfl := rels_length hus
  have hf := hfirst w rfl xs.length (Nat.le_refl _)
  rw [Nat.mul_one, hfl, List.take_length] at hf
  have hu : ∃ base cap, u = .slice base xs.length cap := by
    cases x <;> simp only [source, Act.run, reduceCtorEq] at hsrc
    · exact absurd rfl (hns _)
    · simp only [rel] at hx
      obtain ⟨base, cap, rfl, _⟩ := hx
      simp only [Builtin.lenOf, Sem.run_pure, Result.ok.injEq, and_true] at hlen
      exact ⟨base, cap, by rw [hlen]⟩
    · simp only [rel] at hx
      subst hx
      simp only [Builtin.lenOf, Sem.run_pure, Result.ok.injEq, and_true] at hlen
      exact ⟨none, 0, by rw [← hlen]⟩
    · simp only [rel] at hx
      obtain ⟨_, _, rfl⟩ := hx
      simp only [Builtin.lenOf, Sem.run_pure, Result.ok.injEq, and_true] at hlen
      exact ⟨_, _, by rw [hlen]⟩
  obtain ⟨base, cap, rfl⟩ := hu
  refine Good.same hI (v := .string ⟨bl.toArray⟩) ?_ (by simp [rel])
  simp only [convert, Sem.run_bind, run_underlying hs, run_underlying hd, Result.andThen_ok, run_underlying he, Conv.bytesToString]
  cases base with
  | none =>
    simp only [Builtin.firstCells, Sem.run_pure, Result.ok.injEq, and_true] at hf
    have : us = [] := by have := congrArg Array.toList hf; simpa using this.symm
    subst this
    simp at g1
    have : bl = [] := by cases bl with | nil => rfl | cons _ _ => simp at g1
    subst this
    rfl
  | some a =>
    have hf' : (loadCells a xs.length).run P w = .ok us.toArray w := by rw [hfl]; simpa [Builtin.firstCells] using hf
    simp only [Sem.run_bind, hf', Result.andThen_ok]
    rw [← Array.forIn_toList, g3 _ (fun _ _ => rfl)]
    simp only [Result.andThen_ok, Sem.run_pure]
    have he : ByteArray.empty.data = #[] := rfl
    simp [he]

/-! ### the least, the greatest -/
theorem run_min {z : V} : ∀ {r : List V} {u : Value} {us : List Value} {x : V}, rel F μ x u → rels F μ r us → minV x r = some z → ∃ v, (us.foldlM Builtin.min2 u : Sem Value).run P w = .ok v w ∧ rel F μ z v
  | [], u, us, x, hx, hr, h => by
    simp only [rels] at hr; subst hr
    simp only [minV, Option.some.injEq] at h; subst h
    exact ⟨u, by simp, hx⟩
  | y :: r, u, us, x, hx, hr, h => by
    obtain ⟨v, us', rfl, hy, hr'⟩ := hr
    unfold minV at h
    split at h
    · rename_i hh; cases hh
    · rename_i k a k' b r' hh
      cases hh
      split at h
      · rename_i hk
        subst hk
        simp only [rel] at hx hy
        subst hx hy
        obtain ⟨v, h1, h2⟩ := run_min (x := .int k (if b < a then b else a)) (u := .int k (if b < a then b else a)) (by simp [rel]) hr' h
        exact ⟨v, by simp only [List.foldlM_cons, Sem.run_bind, Builtin.min2, Sem.run_pure, Result.andThen_ok, h1], h2⟩
      · cases h
    · cases h

theorem run_max {z : V} : ∀ {r : List V} {u : Value} {us : List Value} {x : V}, rel F μ x u → rels F μ r us → maxV x r = some z → ∃ v, (us.foldlM Builtin.max2 u : Sem Value).run P w = .ok v w ∧ rel F μ z v
  | [], u, us, x, hx, hr, h => by
    simp only [rels] at hr; subst hr
    simp only [maxV, Option.some.injEq] at h; subst h
    exact ⟨u, by simp, hx⟩
  | y :: r, u, us, x, hx, hr, h => by
    obtain ⟨v, us', rfl, hy, hr'⟩ := hr
    unfold maxV at h
    split at h
    · rename_i hh; cases hh
    · rename_i k a k' b r' hh
      cases hh
      split at h
      · rename_i hk
        subst hk
        simp only [rel] at hx hy
        subst hx hy
        obtain ⟨v, h1, h2⟩ := run_max (x := .int k (if b > a then b else a)) (u := .int k (if b > a then b else a)) (by simp [rel]) hr' h
        exact ⟨v, by simp only [List.foldlM_cons, Sem.run_bind, Builtin.max2, Sem.run_pure, Result.andThen_ok, h1], h2⟩
      · cases h
    · cases h

theorem good_copy {t t' ty e : TypeId} {k : Key} {b off len cap n : Nat} {cs : List V} {ys : List V} {x : V} {u : Value} {l l' : List Key} (hI : Inv F μ σ w) (hu : P.underlying t = some (.slice e)) (hs : sizeT P e = some 1)
    (hk : σ.get k = some (.cells cs)) (hb : μ k = some (.blk b)) (hx : rel F μ x u) (hsrc : (source 1 x).run σ l = some (ys, l')) (hn : n = Nat.min ys.length len) (hfit : off + n ≤ cs.length) :
    Good P (do pure (.value (← Builtin.copy_ #[t, t'] ty #[.slice (some ⟨b, off, none⟩) len cap, u]))) F μ σ w ⟨.int .i64 n, [(k, .cells (splice cs off ((ys.take n).flatMap V.cellsOf)))]⟩ := by
  obtain ⟨hlen, hcell, us, hus, hfirst, huc⟩ := source_run (P := P) hI hx (by decide) hsrc
  have hnl : n ≤ ys.length := by rw [hn]; exact Nat.min_le_left _ _
  have hf := hfirst w rfl n hnl
  rw [Nat.mul_one] at hf
  have hflat : ∀ l : List V, (∀ y ∈ l, y.cellsOf.length = 1) → (l.flatMap V.cellsOf).length = l.length := fun l h => by rw [flatMap_cells_length h, Nat.mul_one]
  obtain ⟨blk, tyb, hw, hcs, hnf⟩ := hI.cells hk hb
  have hlu := rels_length hus
  rw [hflat ys hcell] at hlu
  have hlc := rels_length hcs
  have hlt : (us.take n).length = n := by simp; omega
  have hst := run_storeCells' (P := P) hw (off := off) (xs := us.take n) (by rw [hlt]; omega) (fun v hv => huc v (List.mem_of_mem_take hv))
  have htake : ∀ (l : List V) (n : Nat), (∀ y ∈ l, y.cellsOf.length = 1) → (l.take n).flatMap V.cellsOf = (l.flatMap V.cellsOf).take n := fun l => by
    induction l with
    | nil => simp
    | cons y r ih =>
      intro n h
      cases n with
      | zero => simp
      | succ n =>
        have hy := h y (by simp)
        obtain ⟨c, hc⟩ := List.length_eq_one_iff.1 hy
        simp only [List.take_succ_cons, List.flatMap_cons, hc, List.singleton_append, ih n (fun z hz => h z (by simp [hz]))]
  have hrt : rels F μ ((ys.take n).flatMap V.cellsOf) (us.take n) := by
    rw [htake ys n hcell]
    exact rels_mono F.le_refl (noMu_le μ) _ _ (rels_take n hus)
  refine ⟨.int .i64 n, w.setRow b (blk.take off ++ us.take n ++ blk.drop (off + (us.take n).length)).toArray, F, μ, .inl ?_, Post.setBlk hI hb (by simp) (fun b' hb' => setRow_other w b b' _ hb') rfl rfl ⟨_, tyb, setRow_heap w b _ _ tyb (0, 0) hw, rels_splice hcs hrt, hnf⟩, by simp [rel]⟩
  simp only [Builtin.copy_, List.getElem?_toArray, List.getElem?_cons_zero, List.getElem?_cons_succ, Sem.run_bind, run_underlying hu, Result.andThen_ok, hlen, ← hn, run_sizeOf' hs, hf, hst, Sem.run_pure, goInt]

end
end Go.Ev
