/-
Closed runs: slices.AppendSeq of a nil list and a list of texts. Condition: none.
-/
import Derived.Test.YtohcohbbmjhnfaaGreatDoorXAu
import Derived.Test.YtohcohbbmjhnfaaGreatDoorHSeq
set_option linter.unusedVariables false
set_option linter.unusedSectionVars false
set_option linter.unusedSimpArgs false
namespace Go.Proofs.YtohcohbbmjhnfaaGreatDoor.X
open Go Go.RowKit
noncomputable section
variable [Tabs]
/-- New memory besides, and one new block for it. -/
theorem HR.allocG {B fl : Nat} {β : Ren} {h : Heap} {nx : Nat} {w w' : World} (hr : HR B β h nx w) {id : Nat} (hfl : fl ≤ id) (hB : B ≤ w.heap.size) {nx' : Nat} (hlt : id < nx') (hnx : nx ≤ nx') {o : AO} {bi : BI} (hge : w.heap.size ≤ bi.rb) (hrb : bi.rb < w'.heap.size)
    (hbelow : Below w.heap.size w w') (hβ : nx ≤ id) (hb : ∀ β', Ext β β' → β' id = some bi → BR β' w' bi o) :
    ∃ β', β' id = some bi ∧ Go_ B fl β h nx w β' (h.set id o) nx' w' := by
  have hid : β id = none := hr_none hr hβ
  have hw : ∀ k, k < w.heap.size → w'.heap[k]? = w.heap[k]? := fun k hk => hbelow.block k hk
  let β' : Ren := fun b => if b = id then some bi else β b
  have h1 : β' id = some bi := if_pos rfl
  have h2 : ∀ b, b ≠ id → β' b = β b := fun b e => if_neg e
  have hext : Ext β β' := fun b bi' e => by
    have : b ≠ id := fun q => by rw [q, hid] at e; cases e
    rw [h2 b this]; exact e
  refine ⟨β', h1, hext, fun b bi' e => ?_, hnx, ⟨fun b bi' o' e1 e2 => ?_, fun b bi' e => ?_, fun b b' c c' o1 o2 e1 e2 e3 e4 l1 l2 er => ?_, fun b bi' o' e1 e2 e3 => ?_, Tabs.st hr.tb (hbelow.mono hB)⟩, hbelow.mono hB, by omega, fun b hb' => Tr.get_set_ne _ _ _ _ (by omega)⟩
  · by_cases q : b = id
    · subst q; exact .inr hβ
    · rw [h2 b q] at e; exact .inl e
  · rcases Tr.get_set e2 with ⟨rfl, rfl⟩ | ⟨q, e3⟩
    · rw [h1] at e1; cases e1; exact hb β' hext h1
    · rw [h2 b q] at e1
      exact (hr.blk b bi' o' e1 e3).mono hext (hw _ (hr.lt b bi' e1).2)
  · by_cases q : b = id
    · subst q; rw [h1] at e; cases e; exact ⟨hlt, hrb⟩
    · rw [h2 b q] at e
      have := hr.lt b bi' e
      exact ⟨by omega, by omega⟩
  · by_cases q : b = id
    · by_cases q' : b' = id
      · rw [q, q']
      · exfalso
        subst q
        rw [h1] at e1; cases e1
        rw [h2 b' q'] at e2
        have := (hr.lt b' c' e2).2
        omega
    · rw [h2 b q] at e1
      by_cases q' : b' = id
      · exfalso
        subst q'
        rw [h1] at e2; cases e2
        have := (hr.lt b c e1).2
        omega
      · rw [h2 b' q'] at e2
        rw [Tr.get_set_ne _ _ _ _ q] at e3
        rw [Tr.get_set_ne _ _ _ _ q'] at e4
        exact hr.inj b b' c c' o1 o2 e1 e2 e3 e4 l1 l2 er
  · by_cases q : b = id
    · subst q; rw [h1] at e1; cases e1; omega
    · rw [h2 b q] at e1
      rw [Tr.get_set_ne _ _ _ _ q] at e2
      exact hr.new b bi' o' e1 e2 e3
def allStr : List XV → Bool
  | [] => true
  | .str _ _ :: r => allStr r
  | _ => false
def appSeqX (h : Heap) (nx : Nat) (xs : List XV) : Option Outs :=
  match xs with
  | [.nils, .fn (.func g) [] [.ptr b 0]] => match Nat.beq g 158, h.get b with
    | true, some (.cells t 1 _ _ true) => match t.get 0 with
      | some .nils => some [(.nils, h, nx)]
      | some (.sl _ _ 0 _ _ _) => some [(.nils, h, nx)]
      | some (.sl b' o' (len + 1) _ 1 _) => match rd h b' o' (Nat.succ len), Nat.blt len 100000 with
        | some cs, true => match allStr cs with
          | true => some [(.sl nx 0 (Nat.succ len) (Nat.succ len) 1 false, h.set nx (newX cs 9 false), Nat.succ nx)]
          | false => none
        | _, _ => none
      | _ => none
    | _, _ => none
  | _ => none
theorem allStr_of {β : Ren} : ∀ {cs : List XV} {us : List Value}, allStr cs = true → VRs β cs us → ∃ zs : List ByteArray, us = zs.map Value.string
  | [], us, _, h => ⟨[], h⟩
  | x :: r, _, hs, ⟨u, us, rfl, h1, h2⟩ => by
    cases x <;> first | (cases hs; done) | skip
    obtain ⟨zs, rfl⟩ := allStr_of (cs := r) hs h2
    obtain ⟨s, rfl, _⟩ := h1
    exact ⟨s :: zs, rfl⟩
def primSeq : CallF := fun _ f xs h nx => match Nat.beq f 183 with
  | true => appSeqX h nx xs
  | false => none
theorem primSeq_ok : CallOK Tryz.prog primSeq := by
  intro B fl f xs h nx outs hx β w vs hr hB hfl hv
  unfold primSeq at hx
  split at hx
  · rename_i hf
    have hf := beq_t hf
    subst hf
    refine ⟨⟨_, Tryz.func183, by kernel_rfl, by kernel_rfl⟩, ?_⟩
    unfold appSeqX at hx
    split at hx
    · rename_i g b
      obtain ⟨v0, us0, rfl, hv0, v1, us1, rfl, hv1, hnil⟩ := hv
      obtain rfl : us1 = [] := hnil
      rw [VR] at hv0
      subst hv0
      obtain ⟨fs, caps, rfl, hfs, hcaps⟩ := hv1
      obtain ⟨fs⟩ := fs
      obtain ⟨caps⟩ := caps
      obtain rfl : fs = [] := hfs
      obtain ⟨cp, us2, rfl, hcp, hn2⟩ := hcaps
      obtain rfl : us2 = [] := hn2
      obtain ⟨bi, hb, rfl⟩ := hcp
      split at hx
      · rename_i t e wr hg hget
        have hg := beq_t hg
        subst hg
        obtain ⟨c, fr, q1, q2, q3, q4, q5, q6⟩ := hr.blk b bi _ hb hget
        obtain ⟨hbase, hsize⟩ := q6 rfl
        obtain ⟨y, sv, y1, y2, y3⟩ := q4 0 (by omega)
        rw [hbase] at y2
        have hcell : w.cell? ⟨bi.rb, 0, none⟩ = some sv := by rw [cell_of q1]; exact y2
        have hlt := (hr.lt b bi hb).2
        have hptr : (some ⟨bi.rb, bi.base + 0, none⟩ : Option Addr) = some ⟨bi.rb, 0, none⟩ := by rw [hbase]
        rw [hptr]
        rw [y1] at hx
        split at hx
        · rename_i hy
          cases hy
          cases hx
          have hsv := y3.v
          rw [VR] at hsv
          have hcall := (callsIn_wide).1 (Seq.appendSeq_in Fence.wide 2 trivial trivial rfl (by omega) bi.rb sv [] (by simp) w hlt hcell (.inl ⟨⟨none, hsv⟩, rfl⟩))
          refine Calls.mono hcall ?_
          rintro e w' ⟨v, rfl, how, hnil, hbel⟩
          exact ⟨_, _, _, List.mem_cons_self .., v, β, rfl, hr.below hB hbel, by rw [VR]; exact hnil.2 rfl⟩
        · rename_i b' o' cap' k' ex' hy
          cases hy
          cases hx
          obtain ⟨bi', hb', x0, cc, rfl, _⟩ := y3.v
          have hcall := (callsIn_wide).1 (Seq.appendSeq_in Fence.wide 2 trivial trivial rfl (by omega) bi.rb _ [] (by simp) w hlt hcell (.inr ⟨bi'.rb, x0, cc, rfl, fun h => absurd h (by simp), fun j hj => absurd hj (by simp)⟩))
          refine Calls.mono hcall ?_
          rintro e w' ⟨v, rfl, how, hnil, hbel⟩
          exact ⟨_, _, _, List.mem_cons_self .., v, β, rfl, hr.below hB hbel, by rw [VR]; exact hnil.2 rfl⟩
        · rename_i b' o' len cap' ex' hy
          cases hy
          split at hx
          · rename_i cs hrd hlen
            have hlen : len < 100000 := by simpa [blt_iff] using hlen
            split at hx
            · rename_i hstr
              cases hx
              obtain ⟨bi', hb', x0, cc, rfl, c1, c2, c3, c4⟩ := y3.v
              obtain ⟨d1, d2⟩ := c4 (by omega)
              obtain ⟨us, r1, r2, r3, r4, r5⟩ := rd_ok hr hb' hrd
              obtain ⟨zs, rfl⟩ := allStr_of hstr r2
              have hz : zs.length = len + 1 := by simpa using r1
              have hstrs : Seq.Strs w.heap.size w (.slice (some ⟨bi'.rb, x0, none⟩) (len + 1) cc) zs := by
                refine .inr ⟨bi'.rb, x0, cc, by rw [hz], fun _ => (hr.lt b' bi' hb').2, fun j hj => ?_⟩
                have := r4 j (.string zs[j]) (by rw [List.getElem?_map, List.getElem?_eq_getElem hj]; rfl)
                rw [d1, List.getElem?_eq_getElem hj]
                exact this
              have hcall := (callsIn_wide).1 (Seq.appendSeq_in Fence.wide 2 trivial trivial rfl (by omega) bi.rb _ zs (by omega) w hlt hcell hstrs)
              refine Calls.mono hcall ?_
              rintro e' w' ⟨v, rfl, how, hnil, hbel⟩
              rcases how.2 with ⟨q, _⟩ | ⟨g, cap, cur, rfl, hg1, hg2, hcapn, _, hcs, htake⟩
              · have := hnil.1 q
                rw [this] at hz; simp at hz
              · have hgl : g < w'.heap.size := (Array.getElem?_eq_some_iff.1 hg2).1
                have hsz : cur.size = cap := by simpa using hcs
                obtain ⟨β', k1, k2⟩ := hr.allocG (fl := fl) (id := nx) (nx' := nx + 1) (o := newX cs 9 false) (bi := ⟨g, 0, cur.size⟩) (w' := w') hfl hB (by omega) (by omega) hg1 hgl hbel (Nat.le_refl _) (fun β' hext hid => by
                  refine br_new (us := zs.map Value.string) hg2 rfl rfl (fun i u hu => ?_) (VRs.mono hext _ r2) r3 (fun i hi => ?_) (frozen0 _) (fun q => by cases q)
                  · have hi : i < zs.length := by have := (List.getElem?_eq_some_iff.1 hu).1; simpa using this
                    have : (cur.toList.take (zs.length * 1))[i]? = some u := by rw [htake]; exact hu
                    rw [List.getElem?_take, if_pos (by omega), Array.getElem?_toList] at this
                    exact this
                  · exact Tr.puts_dense cs .nil 0 (fun j hj => by omega) i (by omega))
                refine ⟨_, _, _, List.mem_cons_self .., _, β', rfl, k2, ?_⟩
                refine ⟨⟨g, 0, cur.size⟩, k1, 0, cap, by rw [hz], by omega, by omega, (fun q => by cases q), fun _ => ⟨by simp, by simp [hsz]⟩⟩
            · cases hx
          · cases hx
        · cases hx
      · cases hx
    · cases hx
  · cases hx
end
end Go.Proofs.YtohcohbbmjhnfaaGreatDoor.X
