/-
json.Copy; canon.Get; content.word, ruled; walked. Condition: utf8's tables in memory.
-/
import Derived.Test.YtbjfmkmaghapgaaGreatDoorBFun2
set_option linter.unusedVariables false
set_option linter.unusedSimpArgs false
namespace Go.Proofs.YtbjfmkmaghapgaaGreatDoor.B
open Go.RowKit
theorem lenS (l : List ByteArray) : ∀ r, r ∈ l.map encS → r.length = 1 := by
  intro r hr
  obtain ⟨x, _, rfl⟩ := List.mem_map.1 hr
  rfl
theorem lenJ (l : List J) : ∀ r, r ∈ l.map encJ → r.length = 5 := by
  intro r hr
  obtain ⟨x, _, rfl⟩ := List.mem_map.1 hr
  cases x
  simp [encJ]
/-- Copied so far. -/
structure CopyAt (X : List (List PV)) (i : Int) (Y : List (List PV)) : Prop where
  lo : 0 ≤ i
  hi : i ≤ X.length
  out : Y = X.take i.toNat
set_option maxRecDepth 100000 in
set_option maxHeartbeats 4000000 in
theorem copy_ac {G : World → Prop} (hst : Stable G) : ∀ (sz : Nat) (x : J) (k n : Int) (t : ByteArray) (KX IX : List (List PV)), x.size ≤ sz → x.size ≤ 1000000 → JRow x k n t KX IX →
    ACalls G Tryz.prog 94 [jp k n t KX IX] (jp k n t KX IX) none
  | 0, x, k, n, t, KX, IX, h, _, _ => by cases x; simp [J.size] at h
  | sz + 1, x, k, n, t, KX, IX, hsz, hbig, hJ => by
    obtain ⟨ks, is, rfl, hK, hI⟩ := hJ
    have hIl : IX.length = is.length := by rw [← hI]; simp
    have hlen := sizes_len is
    have hs1 : sizes is ≤ sz ∧ sizes is ≤ 1000000 ∧ ks.length ≤ 1000000 := by simp only [J.size] at hsz hbig; omega
    have hKl : KX.length ≤ 1000000000 := by rw [← hK]; simp; omega
    have ih := fun (x : J) (hx : x ∈ is) k n t KX IX (hJ : JRow x k n t KX IX) => copy_ac hst sz x k n t KX IX (by have := size_mem hx; omega) (by have := size_mem hx; omega) hJ
    refine acalls_fn hst mixed tau_ok Tryz.func94 (by kernel_rfl) (by kernel_rfl) (by kernel_rfl) ?_
    intro Q hQ
    cbv
    refine Or.inl ⟨_, _, hQ _ _ _ _ (cloneString_any hst KX (hK ▸ lenS ks) hKl), ?_⟩
    cbv
    intro m1 h1
    cbv
    refine Or.inr ⟨[2, 3, 17, 18], [200002, 200003], Int × List (List PV), fun p => [(.t 19, ⟨.pv (.lit (.int .i64 p.1)), none, none⟩), (.b 200003 4, ⟨.pv (.sl p.2), some (42, 5), none⟩)], fun p => CopyAt IX p.1 p.2, fun p => IX.length - p.1.toNat, (0, []), (show CopyAt IX 0 [] from ⟨by omega, by omega, by simp⟩), ?_, ?_⟩
    · cbv
      simp
    · intro ⟨i, Y⟩ hp
      have hp : CopyAt IX i Y := hp
      cbv
      intro c1 h2
      cbv
      cases c1
      · cbv
        have h := h2.no
        have e1 := h1.len
        have e2 := hp.out
        rw [List.take_of_length_le (by omega)] at e2
        subst e2
        try exact ⟨rfl, trivial⟩
      · cbv
        refine ⟨h1.atL hp.lo h2.yes, ?_⟩
        intro r hr
        obtain ⟨x, hx, rfl⟩ := hr.row hI
        obtain ⟨k', n', t', KX', IX', hJ', he'⟩ := JRow.of x
        rw [he']
        cbv
        refine Or.inl ⟨_, _, hQ _ _ _ _ (ih x (List.mem_of_getElem? hx) k' n' t' KX' IX' hJ'), ?_⟩
        cbv
        have hYl : Y.length ≤ 1000000 := by rw [hp.out, List.length_take]; omega
        refine ⟨⟨by simp; omega, fun r hr => ?_, fun r hr => ?_⟩, ?_⟩
        · rw [hp.out] at hr
          exact (hI ▸ lenJ is) r (List.mem_of_mem_take hr)
        · simp at hr; subst hr; rfl
        · intro Y' hY'
          cbv
          intro i' hi'
          cbv
          have e1 := h1.len
          have e2 := h2.yes
          have e3 := hp.lo
          have e4 := hi'.add1 (by omega) (by omega)
          refine ⟨(i', Y'), ?_, ?_, ?_⟩
          · refine ⟨by omega, by omega, ?_⟩
            have hx' : IX[i.toNat]? = some (encJ x) := by rw [← hI, List.getElem?_map, hx]; rfl
            rw [hY'.out, e4, take_next IX hp.lo, List.take_add_one, hx', hp.out, he']
            rfl
          · show IX.length - i'.toNat < IX.length - i.toNat
            omega
          · cbv
            simp
end Go.Proofs.YtbjfmkmaghapgaaGreatDoor.B
