/-
rules.Sort, walked. Condition: none.
-/
import Derived.Test.YtbjfmkmaghapgaaGreatDoorBCmp
set_option linter.unusedVariables false
set_option linter.unusedSimpArgs false
namespace Go.Proofs.YtbjfmkmaghapgaaGreatDoor.B
open Go.RowKit
/-- Is before, or is the same. -/
def leR (a b : Rl) : Bool := decide (cmpR a b ≤ 0)
def sortR (l : List Rl) : List Rl := l.mergeSort leR
set_option maxRecDepth 100000 in
set_option maxHeartbeats 2000000 in
theorem clipRule_hc {G : World → Prop} (Y : List (List PV)) (m : Nat) (hm : m ≤ 1000000) :
    HCalls G Tryz.prog 48 [.slp 30000 5 0 m] [(30000, [.rows 5 Y])] (.slp 30000 5 0 m) none [(30000, [.rows 5 Y])] := by
  refine hcalls_fn mixed tau_ok Tryz.func48 (by kernel_rfl) (by kernel_rfl) (by kernel_rfl) (by kernel_rfl) ?_
  intro Q hQ hH
  cbv
  intro m1 h1
  cbv
  intro m2 h2
  cbv
  refine ⟨⟨by rw [h1.out]; exact Int.natCast_nonneg m, by rw [h1.out, h2.out]; exact Int.le_refl _, by rw [h2.out]; exact Int.le_refl _⟩, ?_⟩
  intro a ha
  cbv
  have e : a = m := by rw [ha.out, h1.out]; exact Int.toNat_natCast m
  subst e
  exact ⟨Le.refl _, ⟨Le.refl _, trivial⟩, trivial⟩
/-- The sort's contract. -/
def SortC (G : World → Prop) : Prop := ∀ (l : List Rl) (X : List (List PV)) (n : Nat) (Y : List (List PV)), l.map encR = X → l.length ≤ 1000000 → Is n (fun _ => X.length) → Is Y (fun _ => (sortR l).map encR) →
  HCalls G Tryz.prog 47 [.slp 30000 5 0 n, .pv (.lit (.func (.func 9) #[] #[]))] [(30000, [.rows 5 X])] (.pv (.tup [])) none [(30000, [.rows 5 Y])]
theorem flatR (l : List Rl) : Flat (l.map encR) := by
  intro r hr p hp
  obtain ⟨x, _, rfl⟩ := List.mem_map.1 hr
  simp [encR] at hp
  rcases hp with rfl | rfl | rfl | rfl | rfl <;> rfl
theorem lenR (l : List Rl) : ∀ r, r ∈ l.map encR → r.length = 5 := by
  intro r hr
  obtain ⟨x, _, rfl⟩ := List.mem_map.1 hr
  rfl
set_option maxRecDepth 100000 in
set_option maxHeartbeats 2000000 in
theorem sort_hc {G : World → Prop} (hst : Stable G) (hS : SortC G) (l : List Rl) (X : List (List PV)) (hX : l.map encR = X) (hl : l.length ≤ 1000000) (hne : l ≠ []) (m : Nat) (Y : List (List PV)) (hm : Is m (fun _ => (dedupA (sortR l)).length)) (hY : Is Y (fun _ => (dedupA (sortR l)).map encR ++ List.replicate (l.length - m) (encR ⟨0, ⟨#[]⟩, ⟨#[]⟩, ⟨#[]⟩, ⟨#[]⟩⟩))) :
    HCalls G Tryz.prog 28 [.pv (.sl X)] [] (.slp 20005 5 0 m) none [(20005, [.rows 5 Y])] := by
  have hXl : X.length = l.length := by rw [← hX]; simp
  have hXne : X ≠ [] := fun e => by rw [e] at hXl; exact hne (List.eq_nil_of_length_eq_zero (by simpa using hXl.symm))
  have hclone := HCalls.thaw (cloneRule_ac hst X (hX ▸ lenR l) (by omega) hXne) (hX ▸ lenR l) (by decide) (hX ▸ flatR l) hXne
  refine hcalls_fn mixed tau_ok Tryz.func28 (by kernel_rfl) (by kernel_rfl) (by kernel_rfl) (by kernel_rfl) ?_
  intro Q hQ hH
  obtain ⟨n, hn⟩ : ∃ n, Is n (fun _ => X.length) := ⟨_, ⟨rfl⟩⟩
  have hclone' : HCalls G Tryz.prog 46 [.pv (.sl X)] [] (.slp 20000 5 0 n) none [(20000, [.rows 5 X])] := by rw [hn.out]; exact hclone
  cbv
  refine Or.inr (Or.inl ⟨⟨[.pv (.sl X)], [], .slp 20000 5 0 n, none, [(20000, [.rows 5 X])], [(20000, 20005)]⟩, hH _ _ _ _ _ _ hclone', ?_⟩)
  cbv
  refine ⟨⟨⟨Or.inr (Or.inl rfl), trivial⟩⟩, ?_⟩
  obtain ⟨Y1, hY1⟩ : ∃ Y1, Is Y1 (fun _ => (sortR l).map encR) := ⟨_, ⟨rfl⟩⟩
  refine ⟨⟨[.slp 30000 5 0 n, .pv (.lit (.func (.func 9) #[] #[]))], [(30000, [.rows 5 X])], .pv (.tup []), none, [(30000, [.rows 5 Y1])], [(30000, 20005)]⟩, hH _ _ _ _ _ _ (hS l X n Y1 hX hl hn hY1), ?_⟩
  cbv
  refine ⟨⟨⟨Or.inr (Or.inl rfl), Or.inr (Or.inl rfl), trivial⟩⟩, ?_⟩
  refine ⟨⟨Or.inr (Or.inl rfl)⟩, ?_⟩
  have hlen : (sortR l).length = l.length := List.length_mergeSort l
  have hn' : Is n (fun _ => Y1.length) := ⟨by rw [hn.out, hXl, hY1.out, List.length_map, hlen]⟩
  have hY' : Is Y (fun _ => (dedupA (sortR l)).map encR ++ List.replicate (n - m) (encR ⟨0, ⟨#[]⟩, ⟨#[]⟩, ⟨#[]⟩, ⟨#[]⟩⟩)) := ⟨by rw [hY.out, hn.out, hXl]⟩
  refine ⟨⟨[.slp 30000 5 0 n], [(30000, [.rows 5 Y1])], .slp 30000 5 0 m, none, [(30000, [.rows 5 Y])], [(30000, 20005)]⟩, hH _ _ _ _ _ _ (compactRule_hc (sortR l) Y1 hY1.out.symm (by rw [hlen]; exact hl) n hn' m hm Y hY'), ?_⟩
  cbv
  refine ⟨⟨⟨Or.inr (Or.inl rfl), trivial⟩⟩, ?_⟩
  refine ⟨⟨Or.inr (Or.inl rfl)⟩, ?_⟩
  have hm1 : m ≤ 1000000 := by have := hm.out; have := dedupA_len (sortR l); omega
  refine ⟨⟨[.slp 30000 5 0 m], [(30000, [.rows 5 Y])], .slp 30000 5 0 m, none, [(30000, [.rows 5 Y])], [(30000, 20005)]⟩, hH _ _ _ _ _ _ (clipRule_hc Y m hm1), ?_⟩
  cbv
  refine ⟨⟨⟨Or.inr (Or.inl rfl), trivial⟩⟩, ?_⟩
  exact ⟨⟨Or.inr (Or.inl rfl)⟩, Le.refl _, ⟨Le.refl _, trivial⟩, trivial⟩
theorem dedupA_nil {α : Type} [DecidableEq α] : dedupA ([] : List α) = [] := rfl
/-- rules.Sort. -/
theorem sort_ac {G : World → Prop} (hst : Stable G) (hS : SortC G) (l : List Rl) (X : List (List PV)) (hX : l.map encR = X) (hl : l.length ≤ 1000000) (hne : l ≠ []) (Z : List (List PV)) (hZ : Is Z (fun _ => (dedupA (sortR l)).map encR)) :
    ACalls G Tryz.prog 28 [.sl X] (.sl Z) none := by
  have hlen : (sortR l).length = l.length := List.length_mergeSort l
  have h := ACalls.freeze (args := [.sl X]) hst (sort_hc hst hS l X hX hl hne _ _ ⟨rfl⟩ ⟨rfl⟩) (by rw [List.length_append, List.length_map]; omega)
  have e : ((dedupA (sortR l)).map encR ++ List.replicate (l.length - (dedupA (sortR l)).length) (encR ⟨0, ⟨#[]⟩, ⟨#[]⟩, ⟨#[]⟩, ⟨#[]⟩⟩)).take (dedupA (sortR l)).length = Z := by
    rw [List.take_append_of_le_length (by simp), List.take_of_length_le (by simp), hZ.out]
  rwa [e] at h
end Go.Proofs.YtbjfmkmaghapgaaGreatDoor.B
