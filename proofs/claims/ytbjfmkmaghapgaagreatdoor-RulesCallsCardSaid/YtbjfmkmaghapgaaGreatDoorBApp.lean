/-
The logic of pure values, continued: append. Condition: none.
-/
import Derived.Test.YtbjfmkmaghapgaaGreatDoorBRel
set_option linter.unusedVariables false
set_option linter.unusedSimpArgs false
namespace Go.Proofs.YtbjfmkmaghapgaaGreatDoor.B
open Go.RowKit

/-- 'append' onto a list in memory of one's own: in its place, or in a new block. -/
theorem append_run {P : Program} (w : World) (base : Nat) (t ty e : TypeId) (i : TypeInfo) (z : Value) (k bytes : Nat) (ht : P.underlying t = some (.slice e)) (hi : P.info? e = some i) (hz : i.zero = some z)
    (hsize : i.size = k) (hby : i.bytes = bytes) (hzs : z.cells.size = k) (v : Value) (n : Nat) (xs : List Value) (hown : w.ownsRow base e k v n xs)
    (x : Value) (m : Nat) (news : List Value) (hl : news.length = m * k) (h1 : ∀ u ∈ news, u.oneCell' = true)
    (hx : (x = .slice none 0 0 ∧ m = 0) ∨ ∃ ad c, x = .slice (some ad) m c ∧ ∀ (j : Nat) u, news[j]? = some u → w.cell? (ad.add j) = some u)
    (h63 : n + m ≤ maxLen) (hbytes : (n + m) * bytes ≤ 140737488355328) (hbase : base ≤ w.heap.size) :
    ∃ v' w', (Builtin.append_ #[t, t] ty #[v, x]).run P w = .ok v' w' ∧ w'.ownsRow base e k v' (n + m) (xs ++ news) ∧
      ((v'.ownBlock = v.ownBlock ∧ w.grownBy w' v.ownBlock) ∨ (v'.ownBlock = some w.heap.size ∧ Below w.heap.size w w')) := by
  subst hsize
  subst hby
  have hsmall : n + m ≤ 9223372036854775807 := by simp only [maxLen] at h63; omega
  have hlen : (xs ++ news).length = (n + m) * i.size := by rw [List.length_append, hown.1, hl, Nat.add_mul]
  rcases hx with ⟨rfl, rfl⟩ | ⟨ad, c, rfl, hnews⟩
  · have hn : news = [] := List.eq_nil_of_length_eq_zero (by simpa using hl)
    subst hn
    rcases hown.2 with ⟨rfl, rfl⟩ | ⟨g, cap, cur, rfl, hbg, hg, hnc, hcm, hcs, htake⟩
    · refine ⟨.slice none 0 0, w, ?_, by simpa using hown, .inl ⟨rfl, ⟨rfl, rfl, rfl, Nat.le_refl _, fun _ _ _ => rfl⟩⟩⟩
      simp [Builtin.append_, run_underlying ht, sizeOf, typeInfo, hi, Builtin.lenOf, Builtin.firstCells, loadCells, loadCellsFrom]
    · refine ⟨.slice (some ⟨g, 0, none⟩) n cap, w, ?_, by simpa using hown, .inl ⟨rfl, ⟨rfl, rfl, rfl, Nat.le_refl _, fun _ _ _ => rfl⟩⟩⟩
      simp [Builtin.append_, run_underlying ht, sizeOf, typeInfo, hi, Builtin.lenOf, Builtin.firstCells, hnc, storeCells]
  have grown : ∀ (old : Nat), old < n + m →
      (w.drew.alloc (.cells (xs.toArray ++ news.toArray ++ Builtin.zeroCells z.cells (grownCap w (n + m) old e - (n + m))) e)).ownsRow base e i.size
        (.slice (some ⟨w.heap.size, 0, none⟩) (n + m) (grownCap w (n + m) old e)) (n + m) (xs ++ news) := by
    intro old ho
    have hge := grownCap_ge w (n + m) old e
    have hcm : grownCap w (n + m) old e ≤ maxLen := grownCap_le_maxLen w (n + m) old e h63
    refine ⟨hlen, .inr ⟨w.heap.size, _, _, rfl, hbase, heap_alloc_new w.drew _, hge, hcm, ?_, ?_⟩⟩
    · simp only [Array.size_append, List.size_toArray, size_zeroCells, hzs, hown.1, hl, ← Nat.add_mul]
      congr 1
      omega
    · simp only [Array.toList_append, List.append_assoc]
      rw [← List.append_assoc, ← hlen]
      exact List.take_left
  have gbel : ∀ o, Below w.heap.size w (w.drew.alloc o) := fun o => ((Below.refl _ _).drew).alloc (Nat.le_refl _) _
  rcases hown.2 with ⟨rfl, rfl⟩ | ⟨g, cap, cur, rfl, hbg, hg, hnc, hcm, hcs, htake⟩
  · have hx : xs = [] := List.eq_nil_of_length_eq_zero (by simpa using hown.1)
    subst hx
    by_cases hm : m = 0
    · subst hm
      have hn : news = [] := List.eq_nil_of_length_eq_zero (by simpa using hl)
      subst hn
      refine ⟨.slice none 0 0, w, ?_, by simpa using hown, .inl ⟨rfl, ⟨rfl, rfl, rfl, Nat.le_refl _, fun _ _ _ => rfl⟩⟩⟩
      simp [Builtin.append_, run_underlying ht, sizeOf, typeInfo, hi, Builtin.lenOf, Builtin.firstCells, loadCells, loadCellsFrom]
    · have hr := run_append_nil (P := P) w t ty e i z ht hi hz ad m c news hl hnews (by omega) (by omega) (by have hb := hbytes; simp only [Nat.zero_add] at hb; omega)
      have hgr := grown 0 (by omega)
      simp only [Nat.zero_add, List.nil_append, Array.empty_append] at hgr ⊢
      exact ⟨_, _, hr, hgr, .inr ⟨rfl, gbel _⟩⟩
  · by_cases hroom : n + m ≤ cap
    · obtain ⟨w', r1, r2, r3⟩ := run_append_fits (P := P) w base t ty e i i.size ht hi rfl g n cap xs hown ad m c news hl hnews h1 hroom
      exact ⟨_, w', r1, r2, .inl ⟨rfl, r3⟩⟩
    · have holds : ∀ j u, xs[j]? = some u → w.cell? ((⟨g, 0, none⟩ : Addr).add j) = some u := hown.cells (g := g) rfl
      have hr := run_append_grow (P := P) w t ty e i z ht hi hz ⟨g, 0, none⟩ n cap xs hown.1 holds ad m c news hl hnews (by omega) (by omega) (growslice_fits (by omega) hbytes)
      exact ⟨_, _, hr, grown cap (by omega), .inr ⟨rfl, gbel _⟩⟩

section
variable {Dr : Prop} {w0 : World} {E0 : Nat → Nat → Prop} {S0 : Nat → Nat → Prop} {N : Nat} {wr : Key → Prop} {g : Key → C} {a : Act} {w : World} {β : Nat → Nat} {S : Nat → Nat → Prop}
/-- More cells of lists, and whatever else no list and no variable holds. -/
theorem Rel.moved (h : Rel Dr w0 E0 S0 N wr g a w β S) {w' : World} {S' : Nat → Nat → Prop} (hb : Kept (EB E0) w0 w') (hdr : Dr → w.drawn ≤ w'.drawn) (hsz : w.heap.size ≤ w'.heap.size)
    (hc : ∀ b o, S b o → w'.cell? ⟨b, o, none⟩ = w.cell? ⟨b, o, none⟩) (hx : ∀ i, (g (.al i)).v ≠ .un → w'.heap[β i]? = w.heap[β i]?)
    (hS : ∀ b o, S b o → S' b o) (hn : ∀ b o, S' b o → S b o ∨ (HomeB E0 w0 b ∧ b < w'.heap.size ∧ (∀ i, (g (.al i)).v ≠ .un → β i ≠ b) ∧ ∀ κ v, rv β a w κ = some v → ¬ Blk (g κ).own v b))
    (hk : ∀ κ v b, rv β a w κ = some v → Blk (g κ).own v b → w'.heap[b]? = w.heap[b]?) : Rel Dr w0 E0 S0 N wr g a w' β S' := by
  have hxc : ∀ i, (g (.al i)).v ≠ .un → ∀ o, w'.cell? ⟨β i, o, none⟩ = w.cell? ⟨β i, o, none⟩ := fun i hi o => World.cell?_of_block (w := w) (a := ⟨β i, o, none⟩) (hx i hi)
  have hr : ∀ κ, There g κ → rv β a w' κ = rv β a w κ := fun κ => rv_same h hxc
  constructor
  · exact hb
  · exact h.df
  · exact h.tsz
  · exact fun b o hs => hS _ _ (h.s0 b o hs)
  · exact fun b o hs => (hc b o (h.s0 b o hs)).trans (h.sc b o hs)
  · intro b o hs
    rcases hn b o hs with hs | hs
    · exact h.sn b o hs
    · exact .inr hs.1
  · intro b o hs
    rcases hn b o hs with hs | hs
    · exact Nat.lt_of_lt_of_le (h.sa b o hs) hsz
    · exact hs.2.1
  · exact fun t => (h.tm t).mono hS hc
  · intro i o hne
    obtain ⟨h1, h4⟩ := h.bx i o hne
    exact ⟨h1.mono hS hc (hx i h4) (World.frozen?_of_block (w := w) (a := ⟨β i, o, none⟩) (hx i h4)), h4⟩
  · intro i hi
    obtain ⟨h1, h2, h3⟩ := h.al i hi
    refine ⟨h1, by omega, fun o hs => ?_⟩
    rcases hn _ o hs with hs | hs
    · exact h3 o hs
    · exact hs.2.2.1 i hi rfl
  · exact h.inj
  · intro κ p ho
    obtain ⟨v, h1, h2⟩ := h.own κ p ho
    refine ⟨v, (hr κ (there_of_own h (by rw [ho]; simp))).trans h1, h2.mono (fun _ _ h => h) (fun b hb => hk κ v b h1 (by rw [ho]; exact hb)) (fun b o hb hs => ?_)⟩
    rcases hn _ o hs with hs | hs
    · exact hs
    · exact absurd (show Blk (g κ).own v b by rw [ho]; exact hb) (hs.2.2.2 κ v h1)
  · intro κ κ' v v' b h3 h4 h5 h6
    rw [hr κ (there_of_own h (blk_ne h5))] at h3
    rw [hr κ' (there_of_own h (blk_ne h6))] at h4
    exact h.ownd κ κ' v v' b h3 h4 h5 h6
  · intro t κ' h1 h2
    obtain ⟨h3, h4⟩ := h.frm t κ' h1 h2
    refine ⟨?_, h4⟩
    cases κ' with
    | b i o => rw [hr (.b i o) (h4 i o rfl)]; exact h3
    | _ => exact h3
  · exact h.blv
  · exact fun d => Nat.le_trans (h.dr d) (hdr d)
/-- A value that owns its list, apart from every key. -/
def Apart (w0 : World) (E0 : Nat → Nat → Prop) (g : Key → C) (a : Act) (w : World) (β : Nat → Nat) (S : Nat → Nat → Prop) (v : Value) (e : TypeId) (k n : Nat) (xs : List Value) : Prop :=
  w.ownsRow 0 e k v n xs ∧ ∀ b, v.ownBlock = some b → (∀ o, S b o → o < n * k) ∧ HBl E0 w0 g β b ∧ ∀ κ' v', rv β a w κ' = some v' → ¬ Blk (g κ').own v' b
theorem FreeL.apart {e : TypeId} {k : Nat} (hk : k ≠ 0) {v : Value} (h : FreeL w0 E0 g a w β S (partsO (e, k) v)) : ∃ n xs, Apart w0 E0 g a w β S v e k n xs := by
  rw [partsO_one hk] at h
  exact owsL_one.1 h
theorem Apart.free {e : TypeId} {k n : Nat} {xs : List Value} (hk : k ≠ 0) {v : Value} (h : Apart w0 E0 g a w β S v e k n xs) : FreeL w0 E0 g a w β S (partsO (e, k) v) := by
  rw [partsO_one hk]
  exact owsL_one.2 ⟨n, xs, h⟩
theorem Rel.append (h : Rel Dr w0 E0 S0 N wr g a w β S) {v v' : Value} {e : TypeId} {k n m : Nat} {xs news : List Value} {w' : World} (hap : Apart w0 E0 g a w β S v e k n xs)
    (ho : w'.ownsRow 0 e k v' (n + m) (xs ++ news)) (hdr : Dr → w.drawn ≤ w'.drawn)
    (hd : (v'.ownBlock = v.ownBlock ∧ w.grownBy w' v.ownBlock) ∨ (v'.ownBlock = some w.heap.size ∧ Below w.heap.size w w')) :
    ∃ S', (∀ b o, S b o → S' b o) ∧ (∀ b o, S b o → w'.cell? ⟨b, o, none⟩ = w.cell? ⟨b, o, none⟩) ∧ (∀ b o, v'.ownBlock = some b → o < (n + m) * k → S' b o) ∧ Rel Dr w0 E0 S0 N wr g a w' β S' ∧ Apart w0 E0 g a w' β S' v' e k (n + m) (xs ++ news) := by
  have hlt := ho.lt
  have hvl := hap.1.lt
  have hsz0 := h.below.size
  refine ⟨fun b o => S b o ∨ (v'.ownBlock = some b ∧ o < (n + m) * k), fun b o hs => .inl hs, ?_, fun b o h1 h2 => .inr ⟨h1, h2⟩, ?_⟩
  · intro b o hs
    rcases hd with ⟨he, hg⟩ | ⟨he, hg⟩
    · by_cases hb : v.ownBlock = some b
      · have h1 := (hap.2 b hb).1 o hs
        have q : ∀ {W : World} {V : Value} {nn : Nat} {ys : List Value}, W.ownsRow 0 e k V nn ys → V.ownBlock = some b → ∀ u, ys[o]? = some u → W.cell? ⟨b, o, none⟩ = some u := fun hW hV u hu => by
          have := hW.cells hV o u hu
          rwa [Addr.add_lit, Nat.zero_add] at this
        have hlx : o < xs.length := by rw [hap.1.1]; exact h1
        have hu : xs[o]? = some xs[o] := List.getElem?_eq_getElem hlx
        rw [q hap.1 hb _ hu, q ho (he.trans hb) xs[o] (by rw [List.getElem?_append_left hlx]; exact hu)]
      · exact World.cell?_of_block (w := w) (a := ⟨b, o, none⟩) (hg.block b (h.sa b o hs) (fun e => hb e.symm))
    · exact hg.cell (p := ⟨b, o, none⟩) (h.sa b o hs)
  have hcell : ∀ b o, S b o → w'.cell? ⟨b, o, none⟩ = w.cell? ⟨b, o, none⟩ := by
    intro b o hs
    rcases hd with ⟨he, hg⟩ | ⟨he, hg⟩
    · by_cases hb : v.ownBlock = some b
      · have h1 := (hap.2 b hb).1 o hs
        have q : ∀ {W : World} {V : Value} {nn : Nat} {ys : List Value}, W.ownsRow 0 e k V nn ys → V.ownBlock = some b → ∀ u, ys[o]? = some u → W.cell? ⟨b, o, none⟩ = some u := fun hW hV u hu => by
          have := hW.cells hV o u hu
          rwa [Addr.add_lit, Nat.zero_add] at this
        have hlx : o < xs.length := by rw [hap.1.1]; exact h1
        have hu : xs[o]? = some xs[o] := List.getElem?_eq_getElem hlx
        rw [q hap.1 hb _ hu, q ho (he.trans hb) xs[o] (by rw [List.getElem?_append_left hlx]; exact hu)]
      · exact World.cell?_of_block (w := w) (a := ⟨b, o, none⟩) (hg.block b (h.sa b o hs) (fun e => hb e.symm))
    · exact hg.cell (p := ⟨b, o, none⟩) (h.sa b o hs)
  -- the blocks of variables and of other lists
  have hblk : ∀ b, b < w.heap.size → (v.ownBlock ≠ some b) → w'.heap[b]? = w.heap[b]? := by
    intro b hb hne
    rcases hd with ⟨he, hg⟩ | ⟨he, hg⟩
    · exact hg.block b hb (fun e => hne e.symm)
    · exact hg.block b hb
  have hszw : w.heap.size ≤ w'.heap.size := by
    rcases hd with ⟨_, hg⟩ | ⟨_, hg⟩
    · exact hg.size
    · exact hg.size
  have hbel : Kept (EB E0) w0 w' := by
    rcases hd with ⟨he, hg⟩ | ⟨he, hg⟩
    · refine h.below.trans (E' := fun b => v.ownBlock = some b) ⟨hg.os, hg.tape, hg.output, hg.size, fun b hb hn => hg.block b hb (fun e => hn e.symm)⟩ (fun b hb e => ?_)
      rcases (hap.2 b e).2.1.1.or with q | q
      · exact q
      · omega
    · exact h.below.grow hg
  -- the result's block: the old one, or a new one
  have hfresh : ∀ b, v'.ownBlock = some b → (v.ownBlock = some b) ∨ b = w.heap.size := by
    intro b hb
    rcases hd with ⟨he, _⟩ | ⟨he, _⟩
    · exact .inl (he ▸ hb)
    · rw [he] at hb; cases hb; exact .inr rfl
  have hxs : ∀ b, v'.ownBlock = some b → HBl E0 w0 g β b ∧ ∀ κ' u, rv β a w κ' = some u → ¬ Blk (g κ').own u b := by
    intro b hb
    rcases hfresh b hb with hb' | rfl
    · exact (hap.2 b hb').2
    · refine ⟨⟨.inr hsz0, fun i hi e => by have := (h.al i hi).2.1; omega⟩, fun κ' u hu he => ?_⟩
      have := blk_lt h hu he
      omega
  have hkeep : ∀ κ u b, rv β a w κ = some u → Blk (g κ).own u b → w'.heap[b]? = w.heap[b]? := by
    intro κ u b h2 h3
    exact hblk b (blk_lt h h2 h3) (fun e => (hap.2 b e).2.2 κ u h2 h3)
  refine ⟨h.moved hbel hdr hszw hcell (fun i hi => hblk _ (h.al i hi).2.1 (fun e => (hap.2 _ e).2.1.2 i hi rfl)) (fun b o hs => .inl hs) ?_ hkeep, ho, fun b hb => ⟨?_, (hxs b hb).1, ?_⟩⟩
  · rintro b o (hs | ⟨hs, _⟩)
    · exact .inl hs
    · exact .inr ⟨(hxs b hs).1.1, (hlt b hs).2, (hxs b hs).1.2, (hxs b hs).2⟩
  · rintro o (hs | ⟨_, hs⟩)
    · rcases hfresh b hb with hb' | rfl
      · have := (hap.2 b hb').1 o hs
        exact Nat.lt_of_lt_of_le this (Nat.mul_le_mul_right _ (by omega))
      · have := h.sa _ o hs; omega
    · exact hs
  · intro κ' u h2 h1
    refine (hxs b hb).2 κ' u ?_ h1
    rw [← h2]
    exact (rv_same h (fun i hi o => World.cell?_of_block (w := w) (a := ⟨β i, o, none⟩) (hblk _ (h.al i hi).2.1 (fun e => (hap.2 _ e).2.1.2 i hi rfl))) (there_of_own h (blk_ne h1))).symm
end
end Go.Proofs.YtbjfmkmaghapgaaGreatDoor.B
