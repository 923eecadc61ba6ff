/-
  Texts and bytes, copies, the least and the greatest: on plain values and in memory.
-/
import Derived.Test.YtiiohfojejfolaaDoorEv14
set_option linter.unusedVariables false
set_option linter.unusedSimpArgs false
namespace Go.Ev
open Go
section
variable {P : Program} {w : World} {F : Frz} {μ : Mu} {σ : Store}

theorem good_bytesOf {s d e : TypeId} {b : ByteArray} (hI : Inv F μ σ w) (hs : P.underlying s = some .string) (hd : P.underlying d = some (.slice e)) (he : P.underlying e = some (.int .u8)) (hb : b.size ≤ 1099511627776) :
    Good P (do pure (.value (← convert s d (.string b)))) F μ σ w ⟨.slc 1 (bytesV b) .none, []⟩ := by
  obtain ⟨c, hc1, hc2⟩ := run_choose_cap (P := P) (w := w) (need := b.size) (old := 0) (e := e) (by omega)
  have hrel : rels F noMu ((bytesV b).flatMap V.cellsOf) (b.toList.map fun x => .int .u8 x.toNat) ∧ ∀ x ∈ bytesV b, x.cellsOf.length = 1 := by
    unfold bytesV
    generalize b.toList = l
    induction l with
    | nil => simp [rels]
    | cons x r ih =>
      simp only [List.map_cons, List.flatMap_cons, V.cellsOf, List.singleton_append, List.mem_cons, forall_eq_or_imp]
      exact ⟨⟨_, _, rfl, by simp [rel], ih.1⟩, by simp, ih.2⟩
  have hlen : (bytesV b).length = b.size := by simp [bytesV, ByteArray.toList_eq]
  let cells : Array Value := b.data.map (fun x => Value.int .u8 x.toNat) ++ Array.replicate (c - b.size) (Value.int .u8 0)
  have hcl : cells = (b.toList.map (fun x => Value.int .u8 x.toNat) ++ List.replicate (c - b.size) (Value.int .u8 0)).toArray := by
    apply Array.ext'; simp [cells, ByteArray.toList_eq]
  have hpost := Post.newRow (w' := { w with drawn := w.drawn + 1, heap := w.heap.push (.cells cells e (cells.size, cells.size + 1)) }) hI (b.toList.map fun x => .int .u8 x.toNat) (List.replicate (c - b.size) (.int .u8 0)) e (cells.size, cells.size + 1)
    (fun u hu => by simp only [List.mem_map] at hu; obtain ⟨x, _, rfl⟩ := hu; rfl) (by rw [hcl]) rfl rfl
  refine ⟨.slice (some ⟨w.heap.size, 0, none⟩) b.size c, _, _, μ, .inl ?_, hpost, ?_⟩
  · have hm : (markStringish ⟨w.heap.size, 0, none⟩).run P { w with drawn := w.drawn + 1, heap := w.heap.push (.cells cells e) } = .ok () { w with drawn := w.drawn + 1, heap := w.heap.push (.cells cells e (cells.size, cells.size + 1)) } := by
      unfold markStringish
      simp only [Sem.run_bind, run_shape, Result.andThen_ok, World.shape?, Array.getElem?_push_size, run_freeze, World.freeze]
      simp only [Nat.one_ne_zero, if_false, beq_self_eq_true, if_true]
      congr 1
      congr 1
      apply Array.ext_getElem?
      intro j
      simp only [Array.getElem?_modify, Array.getElem?_push]
      by_cases hj : w.heap.size = j
      · subst hj; simp
      · simp [hj]
        have : ¬ j = w.heap.size := fun h => hj h.symm
        simp [this]
    simp only [convert, Sem.run_bind, run_underlying hs, run_underlying hd, Result.andThen_ok, run_underlying he, Conv.stringToBytes, hc2, newRow, run_newObj, Sem.run_pure]
    have := hm
    simp only [cells] at this
    rw [this]
    rfl
  · simp only [rel]
    refine ⟨some ⟨w.heap.size, 0, none⟩, c, by rw [hlen], ⟨.inr rfl, ?_⟩, by simp [ownRel, hlen]; exact hc1⟩
    rw [frzE_iff]
    exact ⟨hrel.2, frz_put hpost.2.1.le hrel.1⟩

theorem bytesIn_cons {x : V} {xs : List V} {l : List UInt8} (h : bytesIn.go (x :: xs) = some l) : ∃ n l', x = .int .u8 n ∧ bytesIn.go xs = some l' ∧ l = UInt8.ofNat n.toNat :: l' := by
  unfold bytesIn.go at h
  split at h
  · rename_i hh; cases hh
  · rename_i n r hh
    cases hh
    simp only [Option.map_eq_some_iff] at h
    obtain ⟨l', hl', rfl⟩ := h
    exact ⟨n, l', rfl, hl', rfl⟩
  · cases h

theorem bytesIn_spec : ∀ {xs : List V} {us : List Value} {l : List UInt8}, bytesIn.go xs = some l → rels F μ xs us → us.length = l.length ∧ xs.flatMap V.cellsOf = xs ∧
    ∀ (f : Value → ByteArray → Sem (ForInStep ByteArray)), (∀ n s, f (.int .u8 n) s = pure (ForInStep.yield (s.push (UInt8.ofNat n.toNat)))) → ∀ (b : ByteArray), (forIn us b f).run P w = .ok ⟨b.data ++ l.toArray⟩ w
  | [], us, l, h, hr => by
    simp only [bytesIn.go, Option.some.injEq] at h; subst h
    simp only [rels] at hr; subst hr
    simp
  | x :: xs, us, l, h, hr => by
    obtain ⟨u, us', rfl, h1, h2⟩ := hr
    obtain ⟨n, l', rfl, hl', rfl⟩ := bytesIn_cons h
    obtain ⟨g1, g2, g3⟩ := bytesIn_spec hl' h2
    simp only [rel] at h1
    subst h1
    refine ⟨by simp [g1], by simp [V.cellsOf, g2], fun f hf b => ?_⟩
    rw [List.forIn_cons]
    simp only [hf, Sem.run_bind, Sem.run_pure, Result.andThen_ok]
    rw [g3 f hf]
    congr 2
    apply Array.ext'; simp [ByteArray.push]

theorem good_stringOf {s d e : TypeId} {x : V} {u : Value} {xs : List V} {b : ByteArray} {l l' : List Key} (hI : Inv F μ σ w) (hs : P.underlying s = some (.slice e)) (hd : P.underlying d = some .string) (he : P.underlying e = some (.int .u8))
    (hx : rel F μ x u) (hsrc : (source 1 x).run σ l = some (xs, l')) (hb : bytesIn xs = some b) (hns : ∀ q, x ≠ .str q) : Good P (do pure (.value (← convert s d u))) F μ σ w ⟨.str b, []⟩ := by
  obtain ⟨hlen, hcell, us, hus, hfirst, _⟩ := source_run (P := P) hI hx (by decide) hsrc
  simp only [bytesIn, Option.map_eq_some_iff] at hb
  obtain ⟨bl, hbl, rfl⟩ := hb
  have hself : xs.flatMap V.cellsOf = xs := by
    have : ∀ (xs : List V) (l : List UInt8), bytesIn.go xs = some l → xs.flatMap V.cellsOf = xs := fun xs => by
      induction xs with
      | nil => simp
      | cons y r ih =>
        intro l h
        obtain ⟨n, l', rfl, hl', rfl⟩ := bytesIn_cons h
        simp [V.cellsOf, ih l' hl']
    exact this xs bl hbl
  rw [hself] at hus
  obtain ⟨g1, _, g3⟩ := bytesIn_spec (P := P) (w := w) hbl hus
  have hfl := rels_length hus
  have hf := hfirst w rfl xs.length (Nat.le_refl _)
  rw [Nat.mul_one, hfl, List.take_length] at hf
  have hu : ∃ base cap, u = .slice base xs.length cap := by
    cases x <;> simp only [source, Act.run, reduceCtorEq] at hsrc
    · exact absurd rfl (hns _)
    · simp only [rel] at hx
      obtain ⟨base, cap, rfl, _⟩ := hx
      simp only [Builtin.lenOf, Sem.run_pure, Result.ok.injEq, and_true] at hlen
      exact ⟨base, cap, by rw [hlen]⟩
    · simp only [rel] at hx
      subst hx
      simp only [Builtin.lenOf, Sem.run_pure, Result.ok.injEq, and_true] at hlen
      exact ⟨none, 0, by rw [← hlen]⟩
    · simp only [rel] at hx
      obtain ⟨_, _, rfl⟩ := hx
      simp only [Builtin.lenOf, Sem.run_pure, Result.ok.injEq, and_true] at hlen
      exact ⟨_, _, by rw [hlen]⟩
  obtain ⟨base, cap, rfl⟩ := hu
  refine Good.same hI (v := .string ⟨bl.toArray⟩) ?_ (by simp [rel])
  simp only [convert, Sem.run_bind, run_underlying hs, run_underlying hd, Result.andThen_ok, run_underlying he, Conv.bytesToString]
  cases base with
  | none =>
    simp only [Builtin.firstCells, Sem.run_pure, Result.ok.injEq, and_true] at hf
    have : us = [] := by have := congrArg Array.toList hf; simpa using this.symm
    subst this
    simp at g1
    have : bl = [] := by cases bl with | nil => rfl | cons _ _ => simp at g1
    subst this
    rfl
  | some a =>
    have hf' : (loadCells a xs.length).run P w = .ok us.toArray w := by rw [hfl]; simpa [Builtin.firstCells] using hf
    simp only [Sem.run_bind, hf', Result.andThen_ok]
    rw [← Array.forIn_toList, g3 _ (fun _ _ => rfl)]
    simp only [Result.andThen_ok, Sem.run_pure]
    have he : ByteArray.empty.data = #[] := rfl
    simp [he]

/-! ### the least, the greatest -/
theorem run_min {z : V} : ∀ {r : List V} {u : Value} {us : List Value} {x : V}, rel F μ x u → rels F μ r us → minV x r = some z → ∃ v, (us.foldlM Builtin.min2 u : Sem Value).run P w = .ok v w ∧ rel F μ z v
  | [], u, us, x, hx, hr, h => by
    simp only [rels] at hr; subst hr
    simp only [minV, Option.some.injEq] at h; subst h
    exact ⟨u, by simp, hx⟩
  | y :: r, u, us, x, hx, hr, h => by
    obtain ⟨v, us', rfl, hy, hr'⟩ := hr
    unfold minV at h
    split at h
    · rename_i hh; cases hh
    · rename_i k a k' b r' hh
      cases hh
      split at h
      · rename_i hk
        subst hk
        simp only [rel] at hx hy
        subst hx hy
        obtain ⟨v, h1, h2⟩ := run_min (x := .int k (if b < a then b else a)) (u := .int k (if b < a then b else a)) (by simp [rel]) hr' h
        exact ⟨v, by simp only [List.foldlM_cons, Sem.run_bind, Builtin.min2, Sem.run_pure, Result.andThen_ok, h1], h2⟩
      · cases h
    · cases h

theorem run_max {z : V} : ∀ {r : List V} {u : Value} {us : List Value} {x : V}, rel F μ x u → rels F μ r us → maxV x r = some z → ∃ v, (us.foldlM Builtin.max2 u : Sem Value).run P w = .ok v w ∧ rel F μ z v
  | [], u, us, x, hx, hr, h => by
    simp only [rels] at hr; subst hr
    simp only [maxV, Option.some.injEq] at h; subst h
    exact ⟨u, by simp, hx⟩
  | y :: r, u, us, x, hx, hr, h => by
    obtain ⟨v, us', rfl, hy, hr'⟩ := hr
    unfold maxV at h
    split at h
    · rename_i hh; cases hh
    · rename_i k a k' b r' hh
      cases hh
      split at h
      · rename_i hk
        subst hk
        simp only [rel] at hx hy
        subst hx hy
        obtain ⟨v, h1, h2⟩ := run_max (x := .int k (if b > a then b else a)) (u := .int k (if b > a then b else a)) (by simp [rel]) hr' h
        exact ⟨v, by simp only [List.foldlM_cons, Sem.run_bind, Builtin.max2, Sem.run_pure, Result.andThen_ok, h1], h2⟩
      · cases h
    · cases h

theorem good_copy {t t' ty e : TypeId} {k : Key} {b off len cap n : Nat} {cs : List V} {ys : List V} {x : V} {u : Value} {l l' : List Key} (hI : Inv F μ σ w) (hu : P.underlying t = some (.slice e)) (hs : sizeT P e = some 1)
    (hk : σ.get k = some (.cells cs)) (hb : μ k = some (.blk b)) (hx : rel F μ x u) (hsrc : (source 1 x).run σ l = some (ys, l')) (hn : n = Nat.min ys.length len) (hfit : off + n ≤ cs.length) :
    Good P (do pure (.value (← Builtin.copy_ #[t, t'] ty #[.slice (some ⟨b, off, none⟩) len cap, u]))) F μ σ w ⟨.int .i64 n, [(k, .cells (splice cs off ((ys.take n).flatMap V.cellsOf)))]⟩ := by
  obtain ⟨hlen, hcell, us, hus, hfirst, huc⟩ := source_run (P := P) hI hx (by decide) hsrc
  have hnl : n ≤ ys.length := by rw [hn]; exact Nat.min_le_left _ _
  have hf := hfirst w rfl n hnl
  rw [Nat.mul_one] at hf
  have hflat : ∀ l : List V, (∀ y ∈ l, y.cellsOf.length = 1) → (l.flatMap V.cellsOf).length = l.length := fun l h => by rw [flatMap_cells_length h, Nat.mul_one]
  obtain ⟨blk, tyb, hw, hcs, hnf⟩ := hI.cells hk hb
  have hlu := rels_length hus
  rw [hflat ys hcell] at hlu
  have hlc := rels_length hcs
  have hlt : (us.take n).length = n := by simp; omega
  have hst := run_storeCells' (P := P) hw (off := off) (xs := us.take n) (by rw [hlt]; omega) (fun v hv => huc v (List.mem_of_mem_take hv))
  have htake : ∀ (l : List V) (n : Nat), (∀ y ∈ l, y.cellsOf.length = 1) → (l.take n).flatMap V.cellsOf = (l.flatMap V.cellsOf).take n := fun l => by
    induction l with
    | nil => simp
    | cons y r ih =>
      intro n h
      cases n with
      | zero => simp
      | succ n =>
        have hy := h y (by simp)
        obtain ⟨c, hc⟩ := List.length_eq_one_iff.1 hy
        simp only [List.take_succ_cons, List.flatMap_cons, hc, List.singleton_append, ih n (fun z hz => h z (by simp [hz]))]
  have hrt : rels F μ ((ys.take n).flatMap V.cellsOf) (us.take n) := by
    rw [htake ys n hcell]
    exact rels_mono F.le_refl (noMu_le μ) _ _ (rels_take n hus)
  refine ⟨.int .i64 n, w.setRow b (blk.take off ++ us.take n ++ blk.drop (off + (us.take n).length)).toArray, F, μ, .inl ?_, Post.setBlk hI hb (by simp) (fun b' hb' => setRow_other w b b' _ hb') rfl rfl ⟨_, tyb, setRow_heap w b _ _ tyb (0, 0) hw, rels_splice hcs hrt, hnf⟩, by simp [rel]⟩
  simp only [Builtin.copy_, List.getElem?_toArray, List.getElem?_cons_zero, List.getElem?_cons_succ, Sem.run_bind, run_underlying hu, Result.andThen_ok, hlen, ← hn, run_sizeOf' hs, hf, hst, Sem.run_pure, goInt]

/-! ### zeros appended -/
theorem zeroCells_u8 {cs : Array Value} (hz : cs = #[.int .u8 0]) (n : Nat) : (Builtin.zeroCells cs n) = Array.replicate n (.int .u8 0) := by
  rw [hz]
  apply Array.ext'
  unfold Builtin.zeroCells
  simp only [Array.toList_map, Array.toList_range, Array.toList_replicate]
  apply List.ext_getElem
  · simp
  · intro i h1 h2
    simp [Nat.mod_one]

theorem good_appendZ {t t' ty e : TypeId} {dst : Nat} {s : V} {us : Value} {n : Int} {a : Ans} {l rd : List Key} (hI : Inv F μ σ w)
    (hu : P.underlying t = some (.slice e)) (hu' : P.underlying t' = some (.int .i64)) (hs : sizeT P e = some 1) (hb : bytesT P e = some 1) (hz : zeroT P e = some [.int .u8 0]) (hn0 : 0 ≤ n) (hn1 : n ≤ 1099511627776)
    (hxs : rel F μ s us) (hr : (appendTo 1 1 dst s (List.replicate n.toNat (.int .u8 0))).run σ l = some (a, rd)) :
    Good P (do pure (.value (← Builtin.append_ #[t, t'] ty #[us, .int .i64 n]))) F μ σ w a := by
  obtain ⟨i, z, hi, hiz, hrels⟩ := zeroT_spec hz
  obtain ⟨i', hi', hby⟩ := bytesT_info hb
  rw [hi] at hi'; cases hi'
  have hzc : z.cells = #[.int .u8 0] := by
    have := hrels F noMu
    simp only [rels, rel] at this
    obtain ⟨u, us', h1, rfl, rfl⟩ := this
    apply Array.ext'
    simpa using h1
  have hw64 : IntKind.i64.wrap n = n := IntWalk.i64_in n (by omega)
  have hai : ∀ w' : World, (asInt (.int .i64 n)).run P w' = .ok n w' := fun _ => rfl
  have hnn : ¬ n < 0 := by omega
  have hnb : ¬ n * ((1 : Nat) : Int) > 2 ^ 48 := by omega
  have ti : ∀ w' : World, (typeInfo e).run P w' = .ok i w' := fun w' => by simp [typeInfo, hi]
  have zv : ∀ w' : World, (zeroValue e).run P w' = .ok z w' := fun w' => by simp [zeroValue, typeInfo, hi, hiz]
  have hrel : rels F noMu ((List.replicate n.toNat (V.int .u8 0)).flatMap V.cellsOf) (List.replicate n.toNat (.int .u8 0)) := by
    generalize n.toNat = q
    induction q with
    | zero => simp [rels]
    | succ q ih => simp only [List.replicate_succ, List.flatMap_cons, V.cellsOf, List.singleton_append]; exact ⟨_, _, rfl, by simp [rel], ih⟩
  have happ : ∀ w' : World, ((if n.toNat * 1 = 0 then pure #[] else do pure (Builtin.zeroCells (← zeroValue e).cells n.toNat)) : Sem (Array Value)).run P w' = .ok (List.replicate n.toNat (.int .u8 0)).toArray w' := fun w' => by
    by_cases h : n.toNat = 0
    · simp [h]
    · simp only [Nat.mul_one, h, if_false, Sem.run_bind, zv, Result.andThen_ok, Sem.run_pure, zeroCells_u8 hzc]
      simp
  refine good_append_gen (e := e) (by_ := 1) (ys := List.replicate n.toNat (.int .u8 0)) (uys := List.replicate n.toNat (.int .u8 0)) hI (by simp) (fun y hy => by rw [List.eq_of_mem_replicate hy]; rfl) hrel (fun v hv => by rw [List.eq_of_mem_replicate hv]; rfl) ?_ ?_ hxs hr
  · intro base len cap hle
    rw [List.length_replicate] at hle ⊢
    unfold Builtin.append_
    simp only [List.getElem?_toArray, List.getElem?_cons_zero, List.getElem?_cons_succ, Sem.run_bind, run_underlying hu, run_underlying hu', Result.andThen_ok, run_sizeOf' hs, Sem.run_pure, if_true, hai, hw64, hnn, if_false, ti, hby, hnb, hle, Bool.not_true, Bool.false_eq_true]
    rw [show (if n.toNat * 1 = 0 then (pure #[] : Sem (Array Value)) else do let __do_lift ← zeroValue e; pure (Builtin.zeroCells __do_lift.cells n.toNat)).run P w = .ok (List.replicate n.toNat (.int .u8 0)).toArray w from happ w]
    simp only [Result.andThen_ok]
    cases base <;> simp
  · intro base len cap old ho hgt hcap hsz hsz'
    rw [List.length_replicate] at *
    have hn1' : Builtin.nextslicecap (len + n.toNat) cap ≤ 2 * (len + n.toNat) := nextslicecap_le (by omega)
    have hn2 : ¬ Builtin.nextslicecap (len + n.toNat) cap * 1 > 2 ^ 48 := by omega
    have hmax : IntKind.i64.max = 9223372036854775807 := by decide
    have hn3 : ¬ (((len + n.toNat : Nat) : Int) > IntKind.i64.max) := by omega
    obtain ⟨c, hc1, hc2⟩ := run_choose_cap (P := P) (w := w) (need := len + n.toNat) (old := cap) (e := e) (by omega)
    have e1 := ho { w with drawn := w.drawn + 1 } rfl
    have e2 := happ { w with drawn := w.drawn + 1 }
    rw [Nat.mul_one] at e2 hn2
    refine ⟨c, { w with drawn := w.drawn + 1, heap := w.heap.push (.cells (old ++ (List.replicate n.toNat (.int .u8 0)).toArray ++ Builtin.zeroCells z.cells (c - (len + n.toNat))) e) }, (Builtin.zeroCells z.cells (c - (len + n.toNat))).toList, hc1, ?_, by
      show w.heap.push _ = w.heap.push _
      congr 2; apply Array.ext'; simp, rfl, rfl, by rw [zeroCells_length, hzc]; simp⟩
    unfold Builtin.append_
    simp only [List.getElem?_toArray, List.getElem?_cons_zero, List.getElem?_cons_succ, Sem.run_bind, run_underlying hu, run_underlying hu', Result.andThen_ok, run_sizeOf' hs, Sem.run_pure, if_true, hai, hw64, hnn, if_false, ti, hby, hnb, hgt, Bool.not_true, Bool.false_eq_true, true_or, and_true, hn3, hn2, hc2, run_askRoom, Nat.mul_one, e1, e2, zv, newRow, run_newObj]

end
end Go.Ev
