/-
Comparisons, walked. Condition: none.
-/
import Derived.Test.YtbjfmkmaghapgaaGreatDoorBSl
set_option linter.unusedVariables false
set_option linter.unusedSimpArgs false
namespace Go.Proofs.YtbjfmkmaghapgaaGreatDoor.B
open Go.RowKit
def cmpI (a b : Int) : Int := if a < b then -1 else if a = b then 0 else 1
def cmpS (a b : ByteArray) : Int := if Op.bytesLess a.toList b.toList = true then -1 else if a = b then 0 else 1
def orI : List Int → Int
  | [] => 0
  | x :: r => if x = 0 then orI r else x
def cmpR (a b : Rl) : Int := orI [cmpI a.kind b.kind, cmpS a.entity b.entity, cmpS a.room b.room, cmpS a.key b.key, cmpS a.reason b.reason]
set_option maxRecDepth 100000 in
set_option maxHeartbeats 2000000 in
theorem isNaNInt_ac {G : World → Prop} (hst : Stable G) (a : Int) : ACalls G Tryz.prog 51 [.lit (.int .i64 a)] (.lit (.bool false)) none := by
  refine acalls_fn hst mixed tau_ok Tryz.func51 (by kernel_rfl) (by kernel_rfl) (by kernel_rfl) ?_
  intro Q hQ
  cbv
  intro b hb
  cbv
  refine litB ?_
  have := hb.out
  simpa using this
set_option maxRecDepth 100000 in
set_option maxHeartbeats 2000000 in
theorem isNaNByteArray_ac {G : World → Prop} (hst : Stable G) (a : ByteArray) : ACalls G Tryz.prog 52 [.lit (.string a)] (.lit (.bool false)) none := by
  refine acalls_fn hst mixed tau_ok Tryz.func52 (by kernel_rfl) (by kernel_rfl) (by kernel_rfl) ?_
  intro Q hQ
  cbv
  intro b hb
  cbv
  refine litB ?_
  have := hb.out
  simpa using this
set_option maxRecDepth 100000 in
set_option maxHeartbeats 2000000 in
theorem cmpInt_ac {G : World → Prop} (hst : Stable G) (a b c : Int) (hc : Is c (fun _ => cmpI a b)) : ACalls G Tryz.prog 33 [.lit (.int .i64 a), .lit (.int .i64 b)] (.lit (.int .i64 c)) none := by
  refine acalls_fn hst mixed tau_ok Tryz.func33 (by kernel_rfl) (by kernel_rfl) (by kernel_rfl) ?_
  intro Q hQ
  cbv
  refine Or.inl ⟨_, _, hQ _ _ _ _ (isNaNInt_ac hst a), ?_⟩
  cbv
  refine Or.inl ⟨_, _, hQ _ _ _ _ (isNaNInt_ac hst b), ?_⟩
  cbv
  intro b1 h1
  cbv
  cases b1
  · cbv
    intro b2 h2
    cbv
    cases b2
    · cbv
      refine litI ?_
      rw [hc.out]
      have := h1.no
      have := h2.no
      simp only [cmpI]
      rw [if_neg (by omega), if_pos (by omega)]
    · cbv
      refine litI ?_
      rw [hc.out]
      have := h1.no
      have := h2.yes
      simp only [cmpI]
      rw [if_neg (by omega), if_neg (by omega)]
  · cbv
    refine litI ?_
    rw [hc.out]
    have := h1.yes
    simp only [cmpI]
    rw [if_pos (by omega)]
set_option maxRecDepth 100000 in
set_option maxHeartbeats 2000000 in
theorem cmpStr_ac {G : World → Prop} (hst : Stable G) (a b : ByteArray) (c : Int) (hc : Is c (fun _ => cmpS a b)) : ACalls G Tryz.prog 34 [.lit (.string a), .lit (.string b)] (.lit (.int .i64 c)) none := by
  refine acalls_fn hst mixed tau_ok Tryz.func34 (by kernel_rfl) (by kernel_rfl) (by kernel_rfl) ?_
  intro Q hQ
  cbv
  refine Or.inl ⟨_, _, hQ _ _ _ _ (isNaNByteArray_ac hst a), ?_⟩
  cbv
  refine Or.inl ⟨_, _, hQ _ _ _ _ (isNaNByteArray_ac hst b), ?_⟩
  cbv
  intro b1 h1
  have h1 : Is b1 (fun _ => Op.bytesLess a.toList b.toList) := h1
  cbv
  cases b1
  · cbv
    intro b2 h2
    have h2 : Is b2 (fun _ => !(Op.bytesLess a.toList b.toList || a.toList == b.toList)) := h2
    cbv
    cases b2
    · cbv
      refine litI ?_
      rw [hc.out]
      have e1 := h1.out
      have e2 := h2.out
      rw [← e1] at e2
      have e3 : a = b := by
        rw [str_eq] at e2
        simpa using e2
      simp only [cmpS]
      rw [← e1, if_neg (by simp), if_pos e3]
    · cbv
      refine litI ?_
      rw [hc.out]
      have e1 := h1.out
      have e2 := h2.out
      rw [← e1] at e2
      have e3 : ¬ a = b := by
        rw [str_eq] at e2
        simpa using e2
      simp only [cmpS]
      rw [← e1, if_neg (by simp), if_neg e3]
  · cbv
    refine litI ?_
    rw [hc.out]
    have e1 := h1.out
    simp only [cmpS]
    rw [← e1, if_pos rfl]
def encI (n : Int) : List PV := [.lit (.int .i64 n)]
structure Zeros (l : List Int) (k : Int) : Prop where
  lo : 0 ≤ k
  hi : k ≤ l.length
  all : ∀ i x, (i : Nat) < k.toNat → l[i]? = some x → x = 0
theorem orI_drop : ∀ (l : List Int) (k : Nat), (∀ i x, i < k → l[i]? = some x → x = 0) → orI l = orI (l.drop k)
  | l, 0, _ => by simp
  | [], k + 1, _ => by simp
  | a :: l, k + 1, h => by
    have h0 := h 0 a (by omega) rfl
    have ih := orI_drop l k (fun i x hi hx => h (i + 1) x (by omega) (by simpa using hx))
    simp only [orI, h0, if_true, List.drop_succ_cons]
    exact ih
set_option maxRecDepth 100000 in
set_option maxHeartbeats 2000000 in
theorem orInt_ac {G : World → Prop} (hst : Stable G) (l : List Int) (X : List (List PV)) (hX : l.map encI = X) (hl : l.length ≤ 1000000) (c : Int) (hc : Is c (fun _ => orI l)) : ACalls G Tryz.prog 32 [.sl X] (.lit (.int .i64 c)) none := by
  have hXl : X.length = l.length := by rw [← hX]; simp
  refine acalls_fn hst mixed tau_ok Tryz.func32 (by kernel_rfl) (by kernel_rfl) (by kernel_rfl) ?_
  intro Q hQ
  cbv
  intro m1 h1
  cbv
  refine Or.inr ⟨[3, 6, 7], [], Int, fun k => [(.t 8, ⟨.pv (.lit (.int .i64 k)), none, none⟩)], Zeros l, fun k => X.length - k.toNat, 0, ⟨by omega, by omega, fun i x h => by simp at h⟩, ?_, ?_⟩
  · cbv
    simp
  · intro k hk
    cbv
    intro b2 h2
    cbv
    cases b2
    · cbv
      refine litI ?_
      have e1 := h1.len
      have e2 := h2.no
      rw [hc.out, orI_drop l k.toNat hk.all, List.drop_eq_nil_of_le (by omega)]
      rfl
    · cbv
      refine ⟨h1.atL hk.lo h2.yes, ?_⟩
      intro r hr
      obtain ⟨x, hx, rfl⟩ := hr.row hX
      cbv
      intro b3 h3
      cbv
      cases b3
      · cbv
        intro k' hk'
        cbv
        have e1 := h1.len
        have e2 := h2.yes
        have e3 := hk.lo
        have e4 := hk'.add1 (by omega) (by omega)
        refine ⟨k', ?_, ?_, ?_⟩
        · refine ⟨by omega, by omega, fun i y hi hy => ?_⟩
          by_cases e : i < k.toNat
          · exact hk.all i y e hy
          · have : i = k.toNat := by omega
            rw [this, hx] at hy
            cases hy
            exact Decidable.not_not.1 h3.no
        · show X.length - k'.toNat < X.length - k.toNat
          omega
        · cbv
          simp
      · cbv
        refine litI ?_
        have e3 := h3.yes
        have hlt := (List.getElem?_eq_some_iff.1 hx).1
        rw [hc.out, orI_drop l k.toNat hk.all, List.drop_eq_getElem_cons hlt]
        simp only [orI]
        have e4 : l[k.toNat] = x := by rw [List.getElem?_eq_getElem hlt] at hx; simpa using hx
        rw [e4, if_neg e3]
set_option maxRecDepth 100000 in
set_option maxHeartbeats 2000000 in
theorem compareR_ac {G : World → Prop} (hst : Stable G) (a b : Rl) (c : Int) (hc : Is c (fun _ => cmpR a b)) : ACalls G Tryz.prog 9 [.agg (encR a), .agg (encR b)] (.lit (.int .i64 c)) none := by
  refine acalls_fn hst mixed tau_ok Tryz.func9 (by kernel_rfl) (by kernel_rfl) (by kernel_rfl) ?_
  intro Q hQ
  obtain ⟨a1, a2, a3, a4, a5⟩ := a
  obtain ⟨b1, b2, b3, b4, b5⟩ := b
  cbv
  obtain ⟨c1, hc1⟩ : ∃ c1, Is c1 (fun _ => cmpI a1 b1) := ⟨_, ⟨rfl⟩⟩
  refine Or.inl ⟨_, _, hQ _ _ _ _ (cmpInt_ac hst a1 b1 c1 hc1), ?_⟩
  cbv
  obtain ⟨c2, hc2⟩ : ∃ c2, Is c2 (fun _ => cmpS a2 b2) := ⟨_, ⟨rfl⟩⟩
  refine Or.inl ⟨_, _, hQ _ _ _ _ (cmpStr_ac hst a2 b2 c2 hc2), ?_⟩
  cbv
  obtain ⟨c3, hc3⟩ : ∃ c3, Is c3 (fun _ => cmpS a4 b4) := ⟨_, ⟨rfl⟩⟩
  refine Or.inl ⟨_, _, hQ _ _ _ _ (cmpStr_ac hst a4 b4 c3 hc3), ?_⟩
  cbv
  obtain ⟨c4, hc4⟩ : ∃ c4, Is c4 (fun _ => cmpS a5 b5) := ⟨_, ⟨rfl⟩⟩
  refine Or.inl ⟨_, _, hQ _ _ _ _ (cmpStr_ac hst a5 b5 c4 hc4), ?_⟩
  cbv
  obtain ⟨c5, hc5⟩ : ∃ c5, Is c5 (fun _ => cmpS a3 b3) := ⟨_, ⟨rfl⟩⟩
  refine Or.inl ⟨_, _, hQ _ _ _ _ (cmpStr_ac hst a3 b3 c5 hc5), ?_⟩
  cbv
  refine Or.inl ⟨_, _, hQ _ _ _ _ (orInt_ac hst [c1, c2, c3, c4, c5] _ rfl (by simp) c ⟨?_⟩), ?_⟩
  · rw [hc.out, hc1.out, hc2.out, hc3.out, hc4.out, hc5.out]
    rfl
  · cbv
end Go.Proofs.YtbjfmkmaghapgaaGreatDoor.B
