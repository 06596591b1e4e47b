/-
Closed runs: blocks that say less; maps of no known order in place of such that have one. Condition: none.
-/
import Derived.Test.YtohcohbbmjhnfaaGreatDoorXMb
set_option linter.unusedVariables false
set_option linter.unusedSectionVars false
set_option linter.unusedSimpArgs false
namespace Go.Proofs.YtohcohbbmjhnfaaGreatDoor.X
open Go Go.RowKit
noncomputable section
variable [Tabs]
/-- A block that says less. -/
structure LessO (o o2 : AO) : Prop where
  br : ∀ {β : Ren} {w : World} {bi : BI}, BR β w bi o → BR β w bi o2
  wr : o2.wr = true → o.wr = true
  live : o2.live = true → o.live = true
theorem LessO.refl (o : AO) : LessO o o := ⟨id, id, id⟩
theorem LessO.trans {o o1 o2 : AO} (h : LessO o o1) (h' : LessO o1 o2) : LessO o o2 := ⟨fun b => h'.br (h.br b), fun q => h.wr (h'.wr q), fun q => h.live (h'.live q)⟩
def Drops (nx0 : Nat) (h h2 : Heap) : Prop := (∀ b, b < nx0 → h2.get b = h.get b) ∧ ∀ b o, h2.get b = some o → (∃ o0, h.get b = some o0 ∧ LessO o0 o) ∨ o = .dead
theorem Drops.refl (nx0 : Nat) (h : Heap) : Drops nx0 h h := ⟨fun _ _ => rfl, fun _ o e => .inl ⟨o, e, .refl o⟩⟩
theorem Drops.trans {nx0 : Nat} {h h1 h2 : Heap} (d : Drops nx0 h h1) (d' : Drops nx0 h1 h2) : Drops nx0 h h2 := by
  refine ⟨fun b hb => (d'.1 b hb).trans (d.1 b hb), fun b o e => ?_⟩
  rcases d'.2 b o e with ⟨o1, e1, l1⟩ | q
  · rcases d.2 b o1 e1 with ⟨o0, e0, l0⟩ | q
    · exact .inl ⟨o0, e0, l0.trans l1⟩
    · subst q
      have : o.live = false := by
        cases z : o.live with
        | false => rfl
        | true => cases l1.live z
      cases o <;> first | exact .inr rfl | cases this
  · exact .inr q
theorem Drops.down {n m : Nat} {h h2 : Heap} (d : Drops n h h2) (hm : m ≤ n) : Drops m h h2 := ⟨fun b hb => d.1 b (Nat.lt_of_lt_of_le hb hm), d.2⟩
theorem Drops.one {nx0 : Nat} {h : Heap} {b : Nat} {o o2 : AO} (hb : nx0 ≤ b) (hg : h.get b = some o) (hl : LessO o o2) : Drops nx0 h (h.set b o2) := by
  refine ⟨fun c hc => Tr.get_set_ne _ _ _ _ (by omega), fun c o' e => ?_⟩
  rcases Tr.get_set e with ⟨rfl, rfl⟩ | ⟨_, e2⟩
  · exact .inl ⟨o, hg, hl⟩
  · exact .inl ⟨o', e2, .refl o'⟩
theorem Drops.set {nx0 : Nat} {h h2 : Heap} (hd : Drops nx0 h h2) {b : Nat} (hb : nx0 ≤ b) : Drops nx0 h (h2.set b .dead) := by
  refine ⟨fun c hc => (Tr.get_set_ne _ _ _ _ (by omega)).trans (hd.1 c hc), fun c o e => ?_⟩
  rcases Tr.get_set e with ⟨_, rfl⟩ | ⟨_, e2⟩
  · exact .inr rfl
  · exact hd.2 c o e2
theorem HR.drops {B : Nat} {β : Ren} {h h2 : Heap} {nx nx0 : Nat} {w : World} (hr : HR B β h nx w) (hd : Drops nx0 h h2) : HR B β h2 nx w := by
  refine ⟨fun b bi o e1 e2 => ?_, hr.lt, fun b b' c c' o1 o2 e1 e2 e3 e4 l1 l2 er => ?_, fun b bi o e1 e2 e3 => ?_, hr.tb⟩
  · rcases hd.2 b o e2 with ⟨o0, q, l⟩ | rfl
    · exact l.br (hr.blk b bi o0 e1 q)
    · trivial
  · rcases hd.2 b o1 e3 with ⟨p1, q, m1⟩ | rfl
    · rcases hd.2 b' o2 e4 with ⟨p2, q', m2⟩ | rfl
      · exact hr.inj b b' c c' p1 p2 e1 e2 q q' (m1.live l1) (m2.live l2) er
      · cases l2
    · cases l1
  · rcases hd.2 b o e2 with ⟨o0, q, l⟩ | rfl
    · exact hr.new b bi o0 e1 q (l.wr e3)
    · cases e3
def sortN : List Nat → List Nat
  | [] => []
  | a :: r => insN a (sortN r)
theorem sortN_mem {x : Nat} : ∀ {l : List Nat}, x ∈ sortN l ↔ x ∈ l
  | [] => by simp [sortN]
  | a :: r => by rw [sortN, insN_mem, sortN_mem, List.mem_cons]
def noDupN : List Nat → Bool
  | [] => true
  | a :: r => match memN a r with
    | true => false
    | false => noDupN r
theorem noDupN_ok : ∀ {l : List Nat}, noDupN l = true → l.Nodup
  | [], _ => List.nodup_nil
  | a :: r, h => by
    unfold noDupN at h
    split at h
    · cases h
    · rename_i q
      rw [memN_ok] at q
      exact List.nodup_cons.2 ⟨fun hm => by simp [hm] at q, noDupN_ok h⟩
def allLtN (n : Nat) : List Nat → Bool
  | [] => true
  | a :: r => match Nat.blt a n with
    | true => allLtN n r
    | false => false
theorem allLtN_ok {n : Nat} : ∀ {l : List Nat}, allLtN n l = true → ∀ a, a ∈ l → a < n
  | [], _, a, h => by simp at h
  | x :: r, h, a, ha => by
    unfold allLtN at h
    split at h
    · rename_i q
      rcases List.mem_cons.1 ha with rfl | ha
      · simpa [blt_iff] using q
      · exact allLtN_ok h a ha
    · cases h
/-- A map's order is forgotten. -/
def looseO : AO → AO
  | .map es clk => match noDupN (es.map (·.born)), allLtN clk (es.map (·.born)) with
    | true, true => .umap (sortE (es.map AE.strip)) clk
    | _, _ => .map es clk
  | o => o
theorem looseO_less (o : AO) : LessO o (looseO o) := by
  cases o with
  | map es clk =>
    unfold looseO
    simp only
    split
    · rename_i q1 q2
      refine ⟨fun {β w bi} hb => ?_, fun _ => rfl, fun _ => rfl⟩
      obtain ⟨arr, h1, h2⟩ := hb
      refine ⟨arr, es, h1, (sortE_perm _).symm, h2, ?_, fun m hm => ?_⟩
      · rw [h2.born]; exact noDupN_ok q1
      · refine allLtN_ok q2 _ ?_
        rw [← h2.born]
        exact List.mem_map_of_mem hm
    · exact LessO.refl _
  | _ => exact LessO.refl _
def looseH (fl : Nat) (h : Heap) (x : XV) : Heap := match x with
  | .map b => match Nat.ble fl b, h.get b with
    | true, some (.map es clk) => h.set b (looseO (.map es clk))
    | _, _ => h
  | _ => h
theorem looseH_ok {fl : Nat} {h : Heap} {x : XV} : Drops fl h (looseH fl h x) := by
  unfold looseH
  split
  · split
    · rename_i es clk q1 q2
      exact Drops.one (Nat.le_of_ble_eq_true q1) q2 (looseO_less _)
    · exact Drops.refl _ _
  · exact Drops.refl _ _
end
end Go.Proofs.YtohcohbbmjhnfaaGreatDoor.X
