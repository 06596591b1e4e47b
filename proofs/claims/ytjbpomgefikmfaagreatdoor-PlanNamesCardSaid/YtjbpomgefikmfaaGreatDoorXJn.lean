/-
Closed runs: strings.Join, by its contract. Condition: none.
-/
import Derived.Test.YtjbpomgefikmfaaGreatDoorXExt
import Derived.Test.YtjbpomgefikmfaaGreatDoorShelfJ
set_option linter.unusedVariables false
set_option linter.unusedSectionVars false
set_option linter.unusedSimpArgs false
namespace Go.Proofs.YtjbpomgefikmfaaGreatDoor.X
open Go Go.RowKit
noncomputable section
section
variable [Tabs]
def joinS (ls ns : Nat) : List XV → Option (Nat × Nat)
  | [] => some (0, 0)
  | .str l n :: r => match r with
    | [] => some (l, n)
    | _ => match joinS ls ns r with
      | some (l', n') => some (Nat.add (Nat.add l ls) l', Nat.add (Nat.mul (Nat.add (Nat.mul n (Nat.pow 256 ls)) ns) (Nat.pow 256 l')) n')
      | none => none
  | _ => none
theorem joinS_ok {β : Ren} {sep : ByteArray} {ls ns : Nat} (hs : StrR sep ls ns) : ∀ {cs : List XV} {us : List Value} {l n : Nat}, VRs β cs us → joinS ls ns cs = some (l, n) → ∃ zs : List ByteArray, us = zs.map Value.string ∧ zs.length = cs.length ∧ StrR ⟨(Lib.join (zs.map (·.data.toList)) sep.data.toList).toArray⟩ l n
  | [], us, l, n, h, hx => by cases hx; exact ⟨[], h, rfl, ⟨rfl, rfl⟩⟩
  | x :: r, us, l, n, ⟨u, us', e, h1, h2⟩, hx => by
    unfold joinS at hx
    split at hx
    · rename_i e; cases e
    · rename_i l0 n0 r' e
      cases e
      obtain ⟨s, rfl, hs0⟩ := h1
      split at hx
      · cases hx
        obtain rfl : us' = [] := h2
        refine ⟨[s], by rw [e]; rfl, rfl, ?_⟩
        have : (⟨(Lib.join ([s].map (·.data.toList)) sep.data.toList).toArray⟩ : ByteArray) = s := by
          rw [List.map_cons, List.map_nil, Lib.join_one]
        rw [this]
        exact hs0
      · rename_i hne
        split at hx
        · rename_i l' n' hj
          cases hx
          obtain ⟨zs, rfl, z1, z2⟩ := joinS_ok hs h2 hj
          cases zs with
          | nil =>
            exfalso
            cases r with
            | nil => exact hne rfl
            | cons => simp at z1
          | cons y zs =>
            refine ⟨s :: y :: zs, by rw [e]; rfl, by simpa using z1, ?_⟩
            have e2 : (⟨(Lib.join ((s :: y :: zs).map (·.data.toList)) sep.data.toList).toArray⟩ : ByteArray) = (s ++ sep) ++ ⟨(Lib.join ((y :: zs).map (·.data.toList)) sep.data.toList).toArray⟩ := by
              have e3 : Lib.join ((s :: y :: zs).map (·.data.toList)) sep.data.toList = s.data.toList ++ sep.data.toList ++ Lib.join ((y :: zs).map (·.data.toList)) sep.data.toList := by
                simp [Lib.join, List.intercalate]
              rw [e3]
              apply ByteArray.ext
              apply Array.ext'
              simp [ByteArray.data_append]
            rw [e2]
            exact (hs0.append hs).append z2
        · cases hx
    · cases hx
def joinX (h : Heap) (xs : List XV) : Option XV :=
  match xs with
  | [.nils, .str _ _] => some (.str 0 0)
  | [.sl b o len _ 1 _, .str ls ns] => match rd h b o len, Nat.ble len 1000 with
    | some cs, true => match joinS ls ns cs with
      | some (l, n) => match Nat.ble l 1000000 with
        | true => some (.str l n)
        | false => none
      | none => none
    | _, _ => none
  | _ => none
def primJ0 : CallF := fun fl f xs h nx => match Nat.beq f 217 with
  | true => match joinX h xs with
    | some x => some [(x, h, nx)]
    | none => none
  | false => primSeq fl f xs h nx
theorem primJ0_ok : CallOK Tryz.prog primJ0 := by
  intro B fl f xs h nx outs hx β w vs hr hB hfl hv
  unfold primJ0 at hx
  split at hx
  · rename_i hf
    have hf := beq_t hf
    subst hf
    refine ⟨⟨_, Tryz.func217, by kernel_rfl, by kernel_rfl⟩, ?_⟩
    split at hx
    · rename_i x hj
      cases hx
      unfold joinX at hj
      split at hj
      · cases hj
        obtain ⟨v0, us0, rfl, hv0, v1, us1, rfl, hv1, hnil⟩ := hv
        obtain rfl : us1 = [] := hnil
        have hv0 : v0 = .slice none 0 0 := hv0
        subst hv0
        obtain ⟨s, rfl, hs⟩ := hv1
        refine Calls.mono (Tryz.strings_Join_none none 0 s w) ?_
        rintro e w' ⟨rfl, rfl⟩
        exact ⟨_, _, _, List.mem_cons_self .., _, β, rfl, Go_.refl hr, ⟨_, rfl, ⟨rfl, rfl⟩⟩⟩
      · rename_i b o len cap ex ls ns
        obtain ⟨v0, us0, rfl, hv0, v1, us1, rfl, hv1, hnil⟩ := hv
        obtain rfl : us1 = [] := hnil
        obtain ⟨s, rfl, hs⟩ := hv1
        obtain ⟨bi, hb, x0, c, rfl, c1, c2, c3, c4⟩ := hv0
        split at hj
        · rename_i cs hrd hle
          have hle := Nat.le_of_ble_eq_true hle
          split at hj
          · rename_i l n hjs
            split at hj
            · rename_i hbig
              have hbig := Nat.le_of_ble_eq_true hbig
              cases hj
              obtain ⟨us, r1, r2, r3, r4, r5⟩ := rd_ok hr hb hrd
              obtain ⟨zs, rfl, z1, z2⟩ := joinS_ok hs r2 hjs
              have hz : zs.length = len := by simpa using r1
              have hcells : ∀ (j : Nat) x, zs[j]? = some x → w.cell? ⟨bi.rb, x0 + j, none⟩ = some (.string x) := fun j x hjx => by
                have hne : c ≠ 0 := by
                  have := (List.getElem?_eq_some_iff.1 hjx).1
                  omega
                rw [(c4 hne).1]
                exact r4 j _ (by rw [List.getElem?_map, hjx]; rfl)
              have hlen : (Lib.join (zs.map (·.data.toList)) s.data.toList).length ≤ 140737488355328 := by
                have := z2.len
                have : (Lib.join (zs.map (·.data.toList)) s.data.toList).length = l := by simpa using this
                omega
              have hcall := Tryz.strings_Join bi.rb x0 c zs s w hcells (hr.lt b bi hb).2 (by omega) (by omega) hlen
              rw [hz] at hcall
              refine Calls.mono hcall ?_
              rintro e w' ⟨rfl, hbel⟩
              exact ⟨_, _, _, List.mem_cons_self .., _, β, rfl, hr.below hB hbel, ⟨_, rfl, z2⟩⟩
            · cases hj
          · cases hj
        · cases hj
      · cases hj
    · cases hx
  · exact primSeq_ok hx hr hB hfl hv
def primJ1 : CallF := autoX pureT (fun f xs => runFK Tryz.prog extT primJ0 10000 60 0 f xs .nil 0) primJ0
def primJ2 : CallF := autoX pureT (fun f xs => runFK Tryz.prog extT primJ1 10000 60 0 f xs .nil 0) primJ0
def primJ : CallF := autoX pureT (fun f xs => runFK Tryz.prog extT primJ2 10000 60 0 f xs .nil 0) primJ0
theorem primJ1_ok : CallOK Tryz.prog primJ1 := autoX_ok mixedX ext_ok num_free primJ0_ok primJ0_ok
theorem primJ2_ok : CallOK Tryz.prog primJ2 := autoX_ok mixedX ext_ok num_free primJ1_ok primJ0_ok
theorem primJ_ok : CallOK Tryz.prog primJ := autoX_ok mixedX ext_ok num_free primJ2_ok primJ0_ok
end
/-- A function of nothing that yields a boolean. -/
theorem closedJ {f : FuncId} {b : Bool} (hx : (letI := noTabs; saysB b (runFK Tryz.prog extT primJ 10000 60 0 f [] .nil 0)) = true) (w : World) : Callable Tryz.prog f ∧ Calls Tryz.prog f #[] w fun e w' => e = .returned (.bool b) ∧ Below w.heap.size w w' :=
  letI := noTabs
  closed_bool mixedX ext_ok num_free primJ_ok hx w trivial
end
end Go.Proofs.YtjbpomgefikmfaaGreatDoor.X
