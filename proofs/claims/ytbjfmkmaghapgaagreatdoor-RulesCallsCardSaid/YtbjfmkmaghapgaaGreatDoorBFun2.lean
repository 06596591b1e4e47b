/-
json.Count, used, Copy; canon.Get; content.word, ruled; walked. Condition: utf8's tables in memory.
-/
import Derived.Test.YtbjfmkmaghapgaaGreatDoorBFun1
import Derived.Lib.ValidU
set_option linter.unusedVariables false
set_option linter.unusedSimpArgs false
namespace Go.Proofs.YtbjfmkmaghapgaaGreatDoor.B
open Go.RowKit
def validB (s : ByteArray) : Bool := Lib.validD s.data.toList
/-- The contract of scan.Valid. -/
def ValidC (G : World → Prop) : Prop := ∀ s : ByteArray, s.size ≤ 9223372036854775807 → ACalls G Tryz.prog 66 [.lit (.string s)] (.lit (.bool (validB s))) none
structure CountAt (l : List J) (i : Int) (d : Int) : Prop where
  lo : 0 ≤ i
  hi : i ≤ l.length
  out : d = 1 + counts (l.take i.toNat)
set_option maxRecDepth 100000 in
set_option maxHeartbeats 2000000 in
theorem count_ac {G : World → Prop} (hst : Stable G) : ∀ (sz : Nat) (x : J) (k n : Int) (t : ByteArray) (KX IX : List (List PV)), x.size ≤ sz → x.size ≤ 1000000 → JRow x k n t KX IX → ∀ (d : Int), Is d (fun _ => (x.count : Int)) →
    ACalls G Tryz.prog 85 [jp k n t KX IX] (.lit (.int .i64 d)) none
  | 0, x, k, n, t, KX, IX, h, _, _, d, _ => by cases x; simp [J.size] at h
  | sz + 1, x, k, n, t, KX, IX, hsz, hbig, hJ, d, hd => by
    obtain ⟨ks, is, rfl, hK, hI⟩ := hJ
    have hIl : IX.length = is.length := by rw [← hI]; simp
    have hlen := sizes_len is
    have hcn := counts_le is
    have hs1 : sizes is ≤ sz ∧ sizes is ≤ 1000000 := by simp only [J.size] at hsz hbig; omega
    have ih := fun (x : J) (hx : x ∈ is) k n t KX IX (hJ : JRow x k n t KX IX) d hd => count_ac hst sz x k n t KX IX (by have := size_mem hx; omega) (by have := size_mem hx; omega) hJ d hd
    refine acalls_fn hst mixed tau_ok Tryz.func85 (by kernel_rfl) (by kernel_rfl) (by kernel_rfl) ?_
    intro Q hQ
    cbv
    intro m1 h1
    cbv
    refine Or.inr ⟨[7, 8], [200001], Int × Int, fun p => [(.t 9, ⟨.pv (.lit (.int .i64 p.1)), none, none⟩), (.t 3, ⟨.pv (.lit (.int .i64 p.2)), none, none⟩)], fun p => CountAt is p.1 p.2, fun p => IX.length - p.1.toNat, (0, 1), (show CountAt is 0 1 from ⟨by omega, by omega, by simp [counts]⟩), ?_, ?_⟩
    · cbv
      simp
    · intro ⟨i, e⟩ hp
      have hp : CountAt is i e := hp
      cbv
      intro c1 h2
      cbv
      cases c1
      · cbv
        refine litI ?_
        have h := h2.no
        rw [h1.len, hIl] at h
        have hk : is.take i.toNat = is := List.take_of_length_le (by omega)
        have he := hp.out
        rw [hk] at he
        rw [hd.len]
        simp only [J.count]
        omega
      · cbv
        refine ⟨h1.atL hp.lo h2.yes, ?_⟩
        intro r hr
        obtain ⟨x, hx, rfl⟩ := hr.row hI
        obtain ⟨k', n', t', KX', IX', hJ', he'⟩ := JRow.of x
        rw [he']
        cbv
        obtain ⟨d', hd'⟩ : ∃ d', Is d' (fun _ => (x.count : Int)) := ⟨_, ⟨rfl⟩⟩
        refine Or.inl ⟨_, _, hQ _ _ _ _ (ih x (List.mem_of_getElem? hx) k' n' t' KX' IX' hJ' d' hd'), ?_⟩
        cbv
        intro m2 h3
        cbv
        intro m3 h4
        cbv
        have h := h2.yes
        have hm1 := h1.len
        have hlo := hp.lo
        have hle := counts_take_le is i.toNat
        have hxe := depths_le is
        have hcx := count_le x
        have hsx := size_mem (List.mem_of_getElem? hx)
        have e1 := hp.out
        have e2 := hd'.len
        have e3 := h3.add (by omega) (by omega)
        obtain rfl := h4.inc (n := IX.length) hp.lo (by omega) (by omega)
        refine ⟨(i + 1, m2), ?_, ?_, ?_⟩
        · refine ⟨by omega, by omega, ?_⟩
          rw [take_next is hp.lo, counts_take is _ x hx]
          omega
        · show IX.length - (i + 1).toNat < IX.length - i.toNat
          omega
        · cbv
          simp
end Go.Proofs.YtbjfmkmaghapgaaGreatDoor.B
