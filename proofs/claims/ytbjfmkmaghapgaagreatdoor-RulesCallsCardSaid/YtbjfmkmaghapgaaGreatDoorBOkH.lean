/-
The logic of pure values, continued: calls that memory is handed to. Condition: none.
-/
import Derived.Test.YtbjfmkmaghapgaaGreatDoorBOkN
set_option linter.unusedVariables false
set_option linter.unusedSimpArgs false
set_option linter.unnecessarySimpa false
namespace Go.Proofs.YtbjfmkmaghapgaaGreatDoor.B
open Go.RowKit

theorem memI_iff {i : Nat} : ∀ {l : List Nat}, memI i l = true ↔ i ∈ l
  | [] => by simp [memI]
  | j :: r => by
    unfold memI
    by_cases h : i = j
    · simp [h]
    · rw [if_neg h, memI_iff]; simp [h]
theorem subI_iff : ∀ {a b : List Nat}, subI a b = true → ∀ i, i ∈ a → i ∈ b
  | [], b, _, i, h => by simp at h
  | j :: a, b, h, i, hi => by
    unfold subI at h
    rw [Bool.and_eq_true] at h
    rcases List.mem_cons.1 hi with rfl | hi
    · exact memI_iff.1 h.1
    · exact subI_iff h.2 i hi
theorem mapI_mem {f : Nat → Nat} {j : Nat} : ∀ {l : List Nat}, j ∈ mapI f l ↔ ∃ i, i ∈ l ∧ f i = j
  | [] => by simp [mapI]
  | i :: r => by
    show j ∈ f i :: mapI f r ↔ _
    rw [List.mem_cons, mapI_mem]
    constructor
    · rintro (rfl | ⟨k, h1, h2⟩)
      · exact ⟨i, List.mem_cons_self .., rfl⟩
      · exact ⟨k, List.mem_cons_of_mem _ h1, h2⟩
    · rintro ⟨k, h1, h2⟩
      rcases List.mem_cons.1 h1 with rfl | h1
      · exact .inl h2.symm
      · exact .inr ⟨k, h1, h2⟩
theorem nodup_inj {f : Nat → Nat} : ∀ {l : List Nat}, nodupI (mapI f l) = true → ∀ i j, i ∈ l → j ∈ l → f i = f j → i = j
  | [], _, i, j, hi, _, _ => by simp at hi
  | k :: r, h, i, j, hi, hj, e => by
    have h' : (!memI (f k) (mapI f r) && nodupI (mapI f r)) = true := h
    rw [Bool.and_eq_true] at h'
    have hn : f k ∉ mapI f r := fun q => by rw [← memI_iff] at q; rw [q] at h'; simp at h'
    rcases List.mem_cons.1 hi with rfl | hi
    · rcases List.mem_cons.1 hj with rfl | hj
      · rfl
      · exact absurd (mapI_mem.2 ⟨j, hj, e.symm⟩) hn
    · rcases List.mem_cons.1 hj with rfl | hj
      · exact absurd ((mapI_mem (l := r)).2 ⟨i, by assumption, e⟩) hn
      · exact nodup_inj h'.2 i j hi hj e
theorem newHS_mem {ids : List Nat} {i : Nat} {xs : List FV} : ∀ {hs : HS}, (i, xs) ∈ newHS ids hs ↔ (i, xs) ∈ hs ∧ i ∉ ids
  | [] => by simp [newHS]
  | (j, ys) :: r => by
    unfold newHS
    by_cases h : memI j ids = true
    · rw [if_pos h, newHS_mem]
      constructor
      · rintro ⟨h1, h2⟩; exact ⟨List.mem_cons_of_mem _ h1, h2⟩
      · rintro ⟨h1, h2⟩
        rcases List.mem_cons.1 h1 with e | h1
        · cases e; exact absurd (memI_iff.1 h) h2
        · exact ⟨h1, h2⟩
    · rw [if_neg h, List.mem_cons, newHS_mem]
      constructor
      · rintro (e | ⟨h1, h2⟩)
        · cases e; exact ⟨List.mem_cons_self .., fun q => h (memI_iff.2 q)⟩
        · exact ⟨List.mem_cons_of_mem _ h1, h2⟩
      · rintro ⟨h1, h2⟩
        rcases List.mem_cons.1 h1 with e | h1
        · exact .inl e
        · exact .inr ⟨h1, h2⟩
theorem oldHS_mem {ids : List Nat} {i : Nat} {xs : List FV} : ∀ {hs : HS}, (i, xs) ∈ oldHS ids hs ↔ (i, xs) ∈ hs ∧ i ∈ ids
  | [] => by simp [oldHS]
  | (j, ys) :: r => by
    unfold oldHS
    by_cases h : memI j ids = true
    · rw [if_pos h, List.mem_cons, oldHS_mem]
      constructor
      · rintro (e | ⟨h1, h2⟩)
        · cases e; exact ⟨List.mem_cons_self .., memI_iff.1 h⟩
        · exact ⟨List.mem_cons_of_mem _ h1, h2⟩
      · rintro ⟨h1, h2⟩
        rcases List.mem_cons.1 h1 with e | h1
        · exact .inl e
        · exact .inr ⟨h1, h2⟩
    · rw [if_neg h, oldHS_mem]
      constructor
      · rintro ⟨h1, h2⟩; exact ⟨List.mem_cons_of_mem _ h1, h2⟩
      · rintro ⟨h1, h2⟩
        rcases List.mem_cons.1 h1 with e | h1
        · cases e; exact absurd (memI_iff.2 h2) h
        · exact ⟨h1, h2⟩
theorem sameKind_spec {i j len : Nat} (h : sameKind i j len = true) : objId j = objId i ∧ (∀ o, isCell j o = isCell i o) ∧ len = if objId i = true then 1 else i / 40000 := by
  unfold sameKind at h
  by_cases h1 : i / 20000 = j / 20000
  · rw [if_pos h1] at h
    by_cases h2 : len = if objId i = true then 1 else i / 40000
    · have e1 : objId j = objId i := by
        unfold objId
        rw [Bool.eq_iff_iff]
        simp only [Nat.ble_eq]
        omega
      have e2 : j / 40000 = i / 40000 := by omega
      exact ⟨e1, fun o => by unfold isCell; rw [e1, e2], h2⟩
    · rw [if_neg h2] at h; cases h
  · rw [if_neg h1] at h; cases h
theorem kindsOK_mem {f : Nat → Nat} {i : Nat} {xs : List FV} : ∀ {hs : HS}, kindsOK f hs = true → (i, xs) ∈ hs → sameKind i (f i) xs.length = true
  | [], _, h => by simp at h
  | (j, ys) :: r, h, hm => by
    unfold kindsOK at h
    rw [Bool.and_eq_true] at h
    rcases List.mem_cons.1 hm with e | hm
    · cases e; exact h.1
    · exact kindsOK_mem h.2 hm
theorem refsOK_mem {ids : List Nat} {x : FV} : ∀ {xs : List FV}, refsOK ids xs = true → x ∈ xs → ∀ i, i ∈ x.refs → i ∈ ids
  | [], _, h => by simp at h
  | y :: r, h, hm => by
    unfold refsOK at h
    rw [Bool.and_eq_true] at h
    rcases List.mem_cons.1 hm with rfl | hm
    · exact subI_iff h.1
    · exact refsOK_mem h.2 hm
theorem refsHS_mem {ids : List Nat} {i : Nat} {xs : List FV} : ∀ {hs : HS}, refsHS ids hs = true → (i, xs) ∈ hs → refsOK ids xs = true
  | [], _, h => by simp at h
  | (j, ys) :: r, h, hm => by
    unfold refsHS at h
    rw [Bool.and_eq_true] at h
    rcases List.mem_cons.1 hm with e | hm
    · cases e; exact h.1
    · exact refsHS_mem h.2 hm
theorem localI_mem {i : Nat} : ∀ {l : List Nat}, localI l = true → i ∈ l → handId i = false
  | [], _, h => by simp at h
  | j :: r, h, hm => by
    unfold localI at h
    rw [Bool.and_eq_true] at h
    rcases List.mem_cons.1 hm with rfl | hm
    · simpa using h.1
    · exact localI_mem h.2 hm
theorem refsC_ren {f : Nat → Nat} {j : Nat} : ∀ {cs : List CV}, j ∈ refsC (renC f cs) → ∃ i, i ∈ refsC cs ∧ f i = j
  | [], h => by simp [renC, refsC] at h
  | c :: r, h => by
    have h' : j ∈ (c.ren f).refs ++ refsC (renC f r) := h
    rcases List.mem_append.1 h' with h' | h'
    · cases c with
      | pv p => simp [CV.ren, CV.refs] at h'
      | ptr i o => simp [CV.ren, CV.refs] at h'; exact ⟨i, by simp [refsC, CV.refs], h'.symm⟩
      | mp i => simp [CV.ren, CV.refs] at h'; exact ⟨i, by simp [refsC, CV.refs], h'.symm⟩
      | slp i k lo n => simp [CV.ren, CV.refs] at h'; exact ⟨i, by simp [refsC, CV.refs], h'.symm⟩
    · obtain ⟨i, h1, h2⟩ := refsC_ren h'
      exact ⟨i, by simp [refsC, h1], h2⟩
theorem renP_refs {f : Nat → Nat} {j : Nat} : ∀ {es : List MP}, j ∈ (renP f es).map MP.i → ∃ i, i ∈ es.map MP.i ∧ f i = j
  | [], h => by simp [renP] at h
  | e :: r, h => by
    have h' : j ∈ f e.i :: (renP f r).map MP.i := h
    rcases List.mem_cons.1 h' with rfl | h'
    · exact ⟨e.i, by simp, rfl⟩
    · obtain ⟨i, h1, h2⟩ := renP_refs h'
      exact ⟨i, List.mem_cons_of_mem _ h1, h2⟩
theorem refs_ren {f : Nat → Nat} {j : Nat} {x : FV} (h : j ∈ (x.ren f).refs) : ∃ i, i ∈ x.refs ∧ f i = j := by
  cases x with
  | clo g cs => exact refsC_ren h
  | tupf cs => exact refsC_ren h
  | aggf cs => exact refsC_ren h
  | entp es clk => exact renP_refs h
  | ptr i o => simp [FV.ren, FV.refs] at h; exact ⟨i, by simp [FV.refs], h.symm⟩
  | mp i => simp [FV.ren, FV.refs] at h; exact ⟨i, by simp [FV.refs], h.symm⟩
  | it i => simp [FV.ren, FV.refs] at h; exact ⟨i, by simp [FV.refs], h.symm⟩
  | slp i k lo n => simp [FV.ren, FV.refs] at h; exact ⟨i, by simp [FV.refs], h.symm⟩
  | rpt i k r j' => simp [FV.ren, FV.refs] at h; exact ⟨i, by simp [FV.refs], h.symm⟩
  | iter m clk seen => simp [FV.ren, FV.refs] at h; exact ⟨m, by simp [FV.refs], h.symm⟩
  | _ => simp [FV.ren, FV.refs] at h
theorem upds_none : ∀ {ws : List (Key × C)} {g : Key → C} {κ : Key}, κ ∉ keysOf ws → upds g ws κ = g κ
  | [], g, κ, _ => rfl
  | (k, c) :: ws, g, κ, h => by
    have h' : κ ∉ k :: keysOf ws := h
    rw [List.mem_cons, not_or] at h'
    show upds (upd g k c) ws κ = _
    rw [upds_none h'.2, upd_ne _ _ h'.1]
theorem upds_in : ∀ {ws : List (Key × C)} {g : Key → C} {κ : Key}, κ ∈ keysOf ws → ∃ c, (κ, c) ∈ ws ∧ upds g ws κ = c
  | [], g, κ, h => by simp [keysOf] at h
  | (k, c) :: ws, g, κ, h => by
    by_cases hk : κ ∈ keysOf ws
    · obtain ⟨d, h1, h2⟩ := upds_in (g := upd g k c) hk
      exact ⟨d, List.mem_cons_of_mem _ h1, h2⟩
    · have h' : κ ∈ k :: keysOf ws := h
      rcases List.mem_cons.1 h' with rfl | h'
      · refine ⟨c, List.mem_cons_self .., ?_⟩
        show upds (upd g κ c) ws κ = _
        rw [upds_none hk, upd_same]
      · exact absurd h' hk
theorem keysOf_mem {κ : Key} {c : C} : ∀ {ws : List (Key × C)}, (κ, c) ∈ ws → κ ∈ keysOf ws
  | [], h => by simp at h
  | (k, d) :: ws, h => by
    show κ ∈ k :: keysOf ws
    rcases List.mem_cons.1 h with e | h
    · cases e; exact List.mem_cons_self ..
    · exact List.mem_cons_of_mem _ (keysOf_mem h)
theorem boxF_mem {i : Nat} {κ : Key} {c : C} : ∀ {xs : List FV} {o : Nat}, (κ, c) ∈ boxF i o xs ↔ ∃ q x, xs[q]? = some x ∧ κ = .b i (o + q) ∧ c = ⟨x, none, none⟩
  | [], o => by simp [boxF]
  | x :: xs, o => by
    show (κ, c) ∈ (Key.b i o, _) :: boxF i (o + 1) xs ↔ _
    rw [List.mem_cons, boxF_mem]
    constructor
    · rintro (e | ⟨q, y, h1, h2, h3⟩)
      · cases e; exact ⟨0, x, rfl, rfl, rfl⟩
      · exact ⟨q + 1, y, by simpa using h1, by rw [h2]; congr 1; omega, h3⟩
    · rintro ⟨q, y, h1, h2, h3⟩
      cases q with
      | zero => simp at h1; subst h1; left; rw [h2, h3]; rfl
      | succ q => exact .inr ⟨q, y, by simpa using h1, by rw [h2]; congr 1; omega, h3⟩
theorem newW_mem {f : Nat → Nat} {κ : Key} {c : C} : ∀ {hs : HS}, (κ, c) ∈ newW f hs ↔ ∃ i xs, (i, xs) ∈ hs ∧ ((κ = .al (f i) ∧ c = liveC) ∨ ∃ q x, xs[q]? = some x ∧ κ = .b (f i) q ∧ c = ⟨x.ren f, none, none⟩)
  | [] => by simp [newW]
  | (j, ys) :: r => by
    show (κ, c) ∈ ((Key.al (f j), liveC) :: boxF (f j) 0 (renL f ys)) ++ newW f r ↔ _
    rw [List.mem_append, List.mem_cons, newW_mem, boxF_mem]
    constructor
    · rintro ((e | ⟨q, x, h1, h2, h3⟩) | ⟨i, xs, h1, h2⟩)
      · cases e; exact ⟨j, ys, List.mem_cons_self .., .inl ⟨rfl, rfl⟩⟩
      · rw [renL_at] at h1
        cases hq : ys[q]? with
        | none => rw [hq] at h1; cases h1
        | some y => rw [hq] at h1; simp at h1; subst h1; exact ⟨j, ys, List.mem_cons_self .., .inr ⟨q, y, hq, by rw [h2, Nat.zero_add], h3⟩⟩
      · exact ⟨i, xs, List.mem_cons_of_mem _ h1, h2⟩
    · rintro ⟨i, xs, h1, h2⟩
      rcases List.mem_cons.1 h1 with e | h1
      · cases e
        left
        rcases h2 with ⟨h2, h3⟩ | ⟨q, x, h2, h3, h4⟩
        · left; rw [h2, h3]
        · right; exact ⟨q, x.ren f, by rw [renL_at, h2]; rfl, by rw [h3, Nat.zero_add], h4⟩
      · exact .inr ⟨i, xs, h1, h2⟩
theorem oldW_mem {f : Nat → Nat} {κ : Key} {c : C} : ∀ {hs : HS}, (κ, c) ∈ oldW f hs ↔ ∃ i xs, (i, xs) ∈ hs ∧ ∃ q x, xs[q]? = some x ∧ κ = .b (f i) q ∧ c = ⟨x.ren f, none, none⟩
  | [] => by simp [oldW]
  | (j, ys) :: r => by
    show (κ, c) ∈ boxF (f j) 0 (renL f ys) ++ oldW f r ↔ _
    rw [List.mem_append, oldW_mem, boxF_mem]
    constructor
    · rintro (⟨q, x, h1, h2, h3⟩ | ⟨i, xs, h1, h2⟩)
      · rw [renL_at] at h1
        cases hq : ys[q]? with
        | none => rw [hq] at h1; cases h1
        | some y => rw [hq] at h1; simp at h1; subst h1; exact ⟨j, ys, List.mem_cons_self .., q, y, hq, by rw [h2, Nat.zero_add], h3⟩
      · exact ⟨i, xs, List.mem_cons_of_mem _ h1, h2⟩
    · rintro ⟨i, xs, h1, h2⟩
      rcases List.mem_cons.1 h1 with e | h1
      · cases e
        left
        obtain ⟨q, x, h2, h3, h4⟩ := h2
        exact ⟨q, x.ren f, by rw [renL_at, h2]; rfl, by rw [h3, Nat.zero_add], h4⟩
      · exact .inr ⟨i, xs, h1, h2⟩
theorem normV_rep {β : Nat → Nat} {S : Nat → Nat → Prop} {w : World} {v : Value} {x y : FV} (h : RepF β S w v x) (hl : x.leV y) : RepF β S w v y := by
  rcases hl with rfl | rfl | rfl
  · trivial
  · exact h
  · cases x with
    | pv p => exact RepP.norm h
    | _ => exact h
theorem holds_le {β : Nat → Nat} {S : Nat → Nat → Prop} {w : World} {i o : Nat} {x y : FV} (h : HoldsB β S w i o x) (hl : x.leV y) (hy : y ≠ .un) : HoldsB β S w i o y := by
  rcases hl with rfl | rfl | rfl
  · exact absurd rfl hy
  · exact h
  · cases x with
    | pv p => obtain ⟨h0, c, h1, h2, h3⟩ := h; exact ⟨h0, c, h1, RepP.norm h2, h3⟩
    | _ => exact h
section
variable {G : World → Prop} {P : Program} {τ : Tau} {Dr : Prop} {w0 : World} {E0 : Nat → Nat → Prop} {S0 : Nat → Nat → Prop} {N : Nat} {wr : Key → Bool} {g : Key → C} {a : Act} {w : World} {β : Nat → Nat} {S : Nat → Nat → Prop}
variable {o : Oper} {K : Act → World → Prop} {Q : Exit → Act → World → Prop} {ws : List (Key × C)}
theorem chkBox_ev {i : Nat} : ∀ {xs : List FV} {q : Nat} {t : T}, vcT G P (chkBox i q xs t) g wr (fun _ v => v = ws) → (∀ (j : Nat) x, xs[j]? = some x → (g (.b i (q + j))).v.leV x) ∧ vcT G P t g wr (fun _ v => v = ws)
  | [], q, t, h => ⟨fun j x hx => by simp at hx, h⟩
  | x :: xs, q, t, h => by
    have h1 := get_ev h
    obtain ⟨⟨hq⟩, h2⟩ := h1
    obtain ⟨h3, h4⟩ := chkBox_ev h2
    refine ⟨fun j y hy => ?_, h4⟩
    cases j with
    | zero => simp at hy; subst hy; exact hq
    | succ j => have := h3 j y (by simpa using hy); rwa [show q + 1 + j = q + (j + 1) from by omega] at this
theorem chkHs_ev {f : Nat → Nat} : ∀ {hs : HS} {t : T}, vcT G P (chkHs f hs t) g wr (fun _ v => v = ws) →
    (∀ i xs, (i, xs) ∈ hs → (g (.al (f i))).v ≠ .un ∧ ∀ (j : Nat) x, xs[j]? = some x → (g (.b (f i) j)).v.leV (x.ren f)) ∧ vcT G P t g wr (fun _ v => v = ws)
  | [], t, h => ⟨fun i xs hm => by simp at hm, h⟩
  | (i, xs) :: r, t, h => by
    have h1 := get_ev h
    split at h1
    · exact h1.elim
    · rename_i hno
      obtain ⟨h2, h3⟩ := chkBox_ev h1
      obtain ⟨h4, h5⟩ := chkHs_ev h3
      refine ⟨fun j ys hm => ?_, h5⟩
      rcases List.mem_cons.1 hm with e | hm
      · cases e
        refine ⟨fun e => hno (by rw [e]; rfl), fun q x hx => ?_⟩
        have := h2 q (x.ren f) (by rw [renL_at, hx]; rfl)
        rwa [Nat.zero_add] at this
      · exact h4 j ys hm
theorem chkNew_ev {f : Nat → Nat} : ∀ {hs : HS} {t : T}, vcT G P (chkNew f hs t) g wr (fun _ v => v = ws) →
    (∀ i xs, (i, xs) ∈ hs → (g (.al (f i))).v = .un) ∧ vcT G P t g wr (fun _ v => v = ws)
  | [], t, h => ⟨fun i xs hm => by simp at hm, h⟩
  | (i, xs) :: r, t, h => by
    have h1 := get_ev h
    split at h1
    · rename_i hno
      obtain ⟨h4, h5⟩ := chkNew_ev h1
      refine ⟨fun j ys hm => ?_, h5⟩
      rcases List.mem_cons.1 hm with e | hm
      · cases e
        cases hv : (g (.al (f i))).v <;> rw [hv] at hno <;> first | rfl | cases hno
      · exact h4 j ys hm
    · exact h1.elim
theorem argsLe_rep : ∀ {vs : List Value} {xs ys : List FV}, vs.length = xs.length → (∀ (i : Nat) v x, vs[i]? = some v → xs[i]? = some x → RepF β S w v x) → argsLe xs ys → vs.length = ys.length ∧ ∀ (i : Nat) v y, vs[i]? = some v → ys[i]? = some y → RepF β S w v y
  | [], [], [], _, _, _ => ⟨rfl, fun i v y hv => by simp at hv⟩
  | [], [], _ :: _, _, _, h => h.elim
  | [], _ :: _, _, h, _, _ => by simp at h
  | _ :: _, [], _, h, _, _ => by simp at h
  | _ :: _, _ :: _, [], _, _, h => h.elim
  | v :: vs, x :: xs, y :: ys, hl, hr, h => by
    obtain ⟨h1, h2⟩ := argsLe_rep (vs := vs) (by simpa using hl) (fun i u z hu hz => hr (i + 1) u z (by simpa using hu) (by simpa using hz)) h.2
    refine ⟨by simp [h1], fun i u z hu hz => ?_⟩
    cases i with
    | zero => simp at hu hz; subst hu; subst hz; exact normV_rep (hr 0 v x rfl rfl) h.1
    | succ i => exact h2 i u z (by simpa using hu) (by simpa using hz)
set_option maxHeartbeats 1000000 in
open Classical in
/-- What a handed memory is, and what it becomes, in the caller's frame. -/
theorem hcall_rel (hG : GOK Dr E0 w0 G) (h : Rel Dr w0 E0 S0 N (fun κ => wr κ = true) g a w β S) (hp : PtrOK g) {D : HD} {fid : FuncId} (hC : HCalls G P fid D.args D.hs D.res D.own D.hs') (hok : D.ok = true)
    (hhs : ∀ i xs, (i, xs) ∈ D.hs → (g (.al (assoc D.ρ i))).v ≠ .un ∧ ∀ (j : Nat) x, xs[j]? = some x → (g (.b (assoc D.ρ i) j)).v.leV (x.ren (assoc D.ρ)))
    (hnw : ∀ i xs, (i, xs) ∈ newHS (idsOf D.hs) D.hs' → (g (.al (assoc D.ρ i))).v = .un) {vs : Array Value} (hargs : vs.size = D.args.length ∧ ∀ (i : Nat) v y, vs[i]? = some v → D.args[i]? = some y → RepF β S w v (y.ren (assoc D.ρ)))
    {wr' : Key → Prop} (hw : ∀ κ, wr κ = true → wr' κ) (hwd : ∀ κ, κ ∈ keysOf (newW (assoc D.ρ) (newHS (idsOf D.hs) D.hs') ++ oldW (assoc D.ρ) (oldHS (idsOf D.hs) D.hs')) → wr' κ) :
    Calls P fid vs w fun e w' => ∃ v S' β'', e = .returned v ∧ Rel Dr w0 E0 S0 N wr' (upds g (newW (assoc D.ρ) (newHS (idsOf D.hs) D.hs') ++ oldW (assoc D.ρ) (oldHS (idsOf D.hs) D.hs'))) a w' β'' S' ∧
      PtrOK (upds g (newW (assoc D.ρ) (newHS (idsOf D.hs) D.hs') ++ oldW (assoc D.ρ) (oldHS (idsOf D.hs) D.hs'))) ∧ RepF β'' S' w' v (D.res.ren (assoc D.ρ)) ∧
      (∀ i, i ∈ (D.res.ren (assoc D.ρ)).refs → (upds g (newW (assoc D.ρ) (newHS (idsOf D.hs) D.hs') ++ oldW (assoc D.ρ) (oldHS (idsOf D.hs) D.hs')) (.al i)).v ≠ .un) ∧ ∀ t, OwnV w0 E0 (upds g (newW (assoc D.ρ) (newHS (idsOf D.hs) D.hs') ++ oldW (assoc D.ρ) (oldHS (idsOf D.hs) D.hs'))) a w' β'' S' (.t t) v D.own := by
  generalize hf : assoc D.ρ = f at *
  unfold HD.ok at hok
  rw [hf] at hok
  simp only [Bool.and_eq_true] at hok
  obtain ⟨⟨⟨⟨⟨⟨⟨⟨ok1, ok2⟩, ok3⟩, ok4⟩, ok5⟩, ok6⟩, ok7⟩, ok8⟩, ok9⟩ := hok
  have hsz := h.below.size
  have hsub : ∀ i, i ∈ idsOf D.hs → i ∈ idsOf D.hs' := subI_iff ok3
  have hinj : ∀ i j, i ∈ idsOf D.hs' → j ∈ idsOf D.hs' → f i = f j → i = j := nodup_inj ok4
  have hk1 : ∀ i xs, (i, xs) ∈ D.hs → objId (f i) = objId i ∧ (∀ o, isCell (f i) o = isCell i o) ∧ xs.length = if objId i = true then 1 else i / 40000 := fun i xs hm => sameKind_spec (kindsOK_mem ok5 hm)
  have hk2 : ∀ i xs, (i, xs) ∈ D.hs' → objId (f i) = objId i ∧ (∀ o, isCell (f i) o = isCell i o) ∧ xs.length = if objId i = true then 1 else i / 40000 := fun i xs hm => sameKind_spec (kindsOK_mem ok6 hm)
  have hlive : ∀ i, i ∈ idsOf D.hs → (g (.al (f i))).v ≠ .un := fun i hi => by
    obtain ⟨xs, hx⟩ := mem_ids hi
    exact (hhs i xs hx).1
  have hnewal : ∀ i, i ∈ idsOf D.hs' → i ∉ idsOf D.hs → (g (.al (f i))).v = .un := fun i hi hn => by
    obtain ⟨xs, hx⟩ := mem_ids hi
    exact hnw i xs (newHS_mem.2 ⟨hx, hn⟩)
  let βc : Nat → Nat := fun i => β (f i)
  have hpre : HPre βc S w D.hs := by
    refine ⟨fun i hi => (h.al (f i) (hlive i hi)).2, fun i j hi hj e => hinj i j (hsub i hi) (hsub j hj) (h.inj _ _ (hlive i hi) (hlive j hj) e), fun i xs hm o x hx hne => ?_⟩
    obtain ⟨e1, e2, _⟩ := hk1 i xs hm
    have hle := (hhs i xs hm).2 o x hx
    have hne' : x.ren f ≠ .un := fun e => hne (ren_no.1 e)
    have hvne : (g (.b (f i) o)).v ≠ .un := fun e => by
      rw [e] at hle
      rcases hle with q | q | q
      · exact hne' q
      · exact hne' q.symm
      · exact hne' q.symm
    exact (holdsB_ren e1 (e2 o)).1 (holds_le (h.bx (f i) o hvne).1 hle hne')
  have hEsub : ∀ b, EB (EH βc D.hs) b → b < w0.heap.size → EB E0 b := fun b hb hlt => by
    obtain ⟨i, hi, rfl⟩ := hb
    rcases (h.al (f i) (hlive i hi)).1.or with q | q
    · exact q
    · exact absurd hlt (Nat.not_lt.2 q)
  refine (hC.2 w S βc vs (fun w' hk => hG.all w' (h.below.trans hk (fun k hk2 e => hEsub k e hk2))) h.sa hpre ⟨hargs.1, fun i v y hv hy => repF_ren.1 (hargs.2 i v y hv hy)⟩).mono ?_
  rintro e w' ⟨v, S', β', rfl, hk, s1, s2, s3, hb1, hb2, hpost, hrv, hown, hownb, hdn⟩
  -- numbers
  let β'' : Nat → Nat := fun j => if hj : ∃ i, i ∈ idsOf D.hs' ∧ i ∉ idsOf D.hs ∧ f i = j then β' hj.choose else β j
  have hβ1 : ∀ i, i ∈ idsOf D.hs' → β'' (f i) = β' i := fun i hi => by
    by_cases hio : i ∈ idsOf D.hs
    · have hno : ¬ ∃ i', i' ∈ idsOf D.hs' ∧ i' ∉ idsOf D.hs ∧ f i' = f i := fun ⟨i', q1, q2, q3⟩ => q2 (hinj i' i q1 hi q3 ▸ hio)
      show (if hj : _ then _ else _) = _
      rw [dif_neg hno, hb1 i hio]
    · have hyes : ∃ i', i' ∈ idsOf D.hs' ∧ i' ∉ idsOf D.hs ∧ f i' = f i := ⟨i, hi, hio, rfl⟩
      show (if hj : _ then _ else _) = _
      rw [dif_pos hyes, hinj _ i hyes.choose_spec.1 hi hyes.choose_spec.2.2]
  have hβ2 : ∀ j, (∀ i, i ∈ idsOf D.hs' → i ∉ idsOf D.hs → f i ≠ j) → β'' j = β j := fun j hj => by
    show (if hj : _ then _ else _) = _
    rw [dif_neg (fun ⟨i, q1, q2, q3⟩ => hj i q1 q2 q3)]
  have holdn : ∀ i, i ∈ idsOf D.hs → β'' (f i) = β (f i) := fun i hi => (hβ1 i (hsub i hi)).trans (hb1 i hi)
  have hconv : ∀ i xs, (i, xs) ∈ D.hs' → ∀ (o : Nat) x, xs[o]? = some x → x.ren f ≠ .un → HoldsB β'' S' w' (f i) o (x.ren f) := fun i xs hm o x hx hne => by
    obtain ⟨e1, e2, _⟩ := hk2 i xs hm
    refine (holdsB_ren e1 (e2 o)).2 ((hpost.holds i xs hm o x hx (fun e => hne (ren_no.2 e))).ren (hβ1 i (ids_mem hm)) (fun r hr => hβ1 r (refsOK_mem (refsHS_mem ok7 hm) (List.mem_of_getElem? hx) r hr)))
  -- the writes
  generalize hWdef : newW f (newHS (idsOf D.hs) D.hs') ++ oldW f (oldHS (idsOf D.hs) D.hs') = W at hwd ⊢
  have hWmem : ∀ κ c, (κ, c) ∈ W → (∃ i xs, (i, xs) ∈ D.hs' ∧ i ∉ idsOf D.hs ∧ ((κ = .al (f i) ∧ c = liveC) ∨ ∃ q x, xs[q]? = some x ∧ κ = .b (f i) q ∧ c = ⟨x.ren f, none, none⟩)) ∨
      ∃ i xs, (i, xs) ∈ D.hs' ∧ i ∈ idsOf D.hs ∧ ∃ q x, xs[q]? = some x ∧ κ = .b (f i) q ∧ c = ⟨x.ren f, none, none⟩ := fun κ c hm => by
    rw [← hWdef] at hm
    rcases List.mem_append.1 hm with hm | hm
    · obtain ⟨i, xs, q1, q2⟩ := newW_mem.1 hm
      obtain ⟨q3, q4⟩ := newHS_mem.1 q1
      exact .inl ⟨i, xs, q3, q4, q2⟩
    · obtain ⟨i, xs, q1, q2⟩ := oldW_mem.1 hm
      obtain ⟨q3, q4⟩ := oldHS_mem.1 q1
      exact .inr ⟨i, xs, q3, q4, q2⟩
  have hWt : ∀ t, Key.t t ∉ keysOf W := fun t hm => by
    obtain ⟨c, hc, _⟩ := upds_in (g := g) hm
    rcases hWmem _ _ hc with ⟨i, xs, _, _, ⟨q, _⟩ | ⟨_, _, _, q, _⟩⟩ | ⟨i, xs, _, _, _, _, _, q, _⟩ <;> cases q
  have hWal : ∀ j, Key.al j ∈ keysOf W → ∃ i, i ∈ idsOf D.hs' ∧ i ∉ idsOf D.hs ∧ f i = j := fun j hm => by
    obtain ⟨c, hc, _⟩ := upds_in (g := g) hm
    rcases hWmem _ _ hc with ⟨i, xs, q1, q2, ⟨q, _⟩ | ⟨_, _, _, q, _⟩⟩ | ⟨i, xs, _, _, _, _, _, q, _⟩ <;> cases q
    exact ⟨i, ids_mem q1, q2, rfl⟩
  have hWb : ∀ j o, Key.b j o ∈ keysOf W → ∃ i, i ∈ idsOf D.hs' ∧ f i = j := fun j o hm => by
    obtain ⟨c, hc, _⟩ := upds_in (g := g) hm
    rcases hWmem _ _ hc with ⟨i, xs, q1, q2, ⟨q, _⟩ | ⟨_, _, _, q, _⟩⟩ | ⟨i, xs, q1, q2, _, _, _, q, _⟩ <;> cases q
    · exact ⟨i, ids_mem q1, rfl⟩
    · exact ⟨i, ids_mem q1, rfl⟩
  have hWin : ∀ i, i ∈ idsOf D.hs' → ∀ o, isCell (f i) o = true → Key.b (f i) o ∈ keysOf W := fun i hi o hc => by
    obtain ⟨xs, hx⟩ := mem_ids hi
    obtain ⟨e1, e2, e3⟩ := hk2 i xs hx
    rw [e2 o] at hc
    have hobj := isCell_obj hc
    rw [hobj] at e3
    have hlt : o < xs.length := by
      rw [e3]
      unfold isCell at hc
      rw [hobj] at hc
      simpa [Nat.blt_eq] using hc
    have hxo := List.getElem?_eq_getElem hlt
    rw [← hWdef, keysOf_append]
    by_cases hio : i ∈ idsOf D.hs
    · exact List.mem_append_right _ (keysOf_mem (oldW_mem.2 ⟨i, xs, oldHS_mem.2 ⟨hx, hio⟩, o, _, hxo, rfl, rfl⟩))
    · exact List.mem_append_left _ (keysOf_mem (newW_mem.2 ⟨i, xs, newHS_mem.2 ⟨hx, hio⟩, .inr ⟨o, _, hxo, rfl, rfl⟩⟩))
  have hval : ∀ i, i ∈ idsOf D.hs' → ∀ o, (upds g W (.b (f i) o)).own = none ∧ ((upds g W (.b (f i) o)).v ≠ .un → HoldsB β'' S' w' (f i) o (upds g W (.b (f i) o)).v) ∨ Key.b (f i) o ∉ keysOf W := fun i hi o => by
    by_cases hm : Key.b (f i) o ∈ keysOf W
    · left
      obtain ⟨c, hc, e⟩ := upds_in (g := g) hm
      rw [e]
      rcases hWmem _ _ hc with ⟨j, xs, q1, q2, ⟨q, _⟩ | ⟨o', x, q3, q4, q5⟩⟩ | ⟨j, xs, q1, q2, o', x, q3, q4, q5⟩
      · cases q
      · simp only [Key.b.injEq] at q4
        obtain ⟨z1, rfl⟩ := q4
        rw [q5, z1]
        exact ⟨rfl, fun hne => hconv j xs q1 o x q3 hne⟩
      · simp only [Key.b.injEq] at q4
        obtain ⟨z1, rfl⟩ := q4
        rw [q5, z1]
        exact ⟨rfl, fun hne => hconv j xs q1 o x q3 hne⟩
    · exact .inr hm
  -- first: what was handed over is forgotten
  let g1 : Key → C := fun κ => match κ with
    | .b j o => if j ∈ mapI f (idsOf D.hs) then unC else g (.b j o)
    | κ => g κ
  have h1 : Rel Dr w0 E0 S0 N wr' g1 a w' β S' := by
    refine h.hand (mapI f (idsOf D.hs)) (fun j hj => ?_) ⟨hk.os, hk.tape, hk.output, hk.size, fun k hk1 hk2 => hk.block k hk1 (fun ⟨i, q1, q2⟩ => hk2 ⟨f i, mapI_mem.2 ⟨i, q1, rfl⟩, q2⟩)⟩ (fun d => hdn (hG.dr d)) s1 s2 s3 (fun κ hκ => ?_) (fun j o hj => ?_) hw (fun j o hj hc => ?_)
    · obtain ⟨i, q1, rfl⟩ := mapI_mem.1 hj
      exact hlive i q1
    · cases κ with
      | b j o =>
        show (if j ∈ mapI f (idsOf D.hs) then unC else g (.b j o)) = _
        rw [if_neg (fun hj => hκ j o hj rfl)]
      | _ => rfl
    · have e : g1 (.b j o) = unC := if_pos hj
      rw [e]
      exact ⟨rfl, fun hne => absurd rfl hne⟩
    · obtain ⟨i, q1, rfl⟩ := mapI_mem.1 hj
      exact hwd _ (hWin i (hsub i q1) o hc)
  have hp1 : PtrOK g1 := by
    intro κ i hi
    cases κ with
    | b j o =>
      have hi' : i ∈ ((if j ∈ mapI f (idsOf D.hs) then unC else g (.b j o)) : C).v.refs := hi
      split at hi'
      · simp [unC, FV.refs] at hi'
      · exact hp _ _ hi'
    | t t => exact hp _ _ hi
    | al j => exact hp _ _ hi
  -- then: what is new
  let newI := mapI f (idsOf (newHS (idsOf D.hs) D.hs'))
  have hnewI : ∀ j, j ∈ newI ↔ ∃ i, i ∈ idsOf D.hs' ∧ i ∉ idsOf D.hs ∧ f i = j := fun j => by
    constructor
    · intro hj
      obtain ⟨i, q1, q2⟩ := mapI_mem.1 hj
      obtain ⟨xs, q3⟩ := mem_ids q1
      obtain ⟨q4, q5⟩ := newHS_mem.1 q3
      exact ⟨i, ids_mem q4, q5, q2⟩
    · rintro ⟨i, q1, q2, q3⟩
      obtain ⟨xs, q4⟩ := mem_ids q1
      exact mapI_mem.2 ⟨i, ids_mem (newHS_mem.2 ⟨q4, q2⟩), q3⟩
  have hnotboth : ∀ j, j ∈ newI → j ∉ mapI f (idsOf D.hs) := fun j hj hj2 => by
    obtain ⟨i, q1, q2, q3⟩ := (hnewI j).1 hj
    obtain ⟨i2, q4, q5⟩ := mapI_mem.1 hj2
    exact q2 (hinj i2 i (hsub i2 q4) q1 (q5.trans q3.symm) ▸ q4)
  let g2 : Key → C := fun κ => match κ with
    | .al j => if j ∈ newI then liveC else g (.al j)
    | .b j o => if j ∈ newI then upds g W (.b j o) else g1 (.b j o)
    | κ => g1 κ
  have hunb : ∀ j, j ∈ newI → ∀ o, (g (.b j o)).v = .un ∧ (g (.b j o)).own = none := fun j hj o => by
    obtain ⟨i, q1, q2, rfl⟩ := (hnewI j).1 hj
    have hz := hnewal i q1 q2
    constructor
    · cases hv : (g (.b (f i) o)).v with
      | un => rfl
      | _ => exact absurd hz (h.bx _ o (by rw [hv]; simp)).2
    · cases hv : (g (.b (f i) o)).own with
      | none => rfl
      | some p => exact absurd hz (h.blv _ o (by rw [hv]; simp))
  have hown1 : ∀ κ v, rv β a w' κ = some v → ∀ b, Blk (g1 κ).own v b → b < w.heap.size := fun κ v hr b hb => by
    have ho := blk_ne hb
    have hg : g1 κ = g κ ∧ rv β a w' κ = rv β a w κ := by
      cases κ with
      | t t => exact ⟨rfl, rfl⟩
      | al j => exact ⟨rfl, rfl⟩
      | b j o =>
        by_cases hj : j ∈ mapI f (idsOf D.hs)
        · have e : g1 (.b j o) = unC := if_pos hj
          rw [e] at ho
          exact absurd rfl ho
        · have e : g1 (.b j o) = g (.b j o) := if_neg hj
          rw [e] at ho
          refine ⟨e, rv_cell (cell_of_block (hk.block _ (h.al j (h.blv j o ho)).2.1 (fun ⟨i, q1, q2⟩ => hj (mapI_mem.2 ⟨i, q1, ?_⟩))) o)⟩
          exact h.inj _ _ (hlive i q1) (h.blv j o ho) q2
    rw [hg.1] at hb
    rw [hg.2] at hr
    exact blk_lt h hr hb
  have h2 : Rel Dr w0 E0 S0 N wr' g2 a w' β'' S' := by
    refine h1.adopt newI (fun j hj => ?_) hp1 β'' (fun j hj => hβ2 j (fun i q1 q2 q3 => hj ((hnewI j).2 ⟨i, q1, q2, q3⟩))) (fun j hj => ?_) (fun j j' hj hj' e => ?_) (fun j hj j' hj' e => ?_) (fun j hj κ u hr hb => ?_) g2 (fun κ hκ => ?_) (fun j hj => ?_)
    · obtain ⟨i, q1, q2, rfl⟩ := (hnewI j).1 hj
      exact hnewal i q1 q2
    · obtain ⟨i, q1, q2, rfl⟩ := (hnewI j).1 hj
      have hloc : handId (f i) = false := localI_mem ok9 hj
      obtain ⟨z1, z2⟩ := hpost.lt i q1
      rw [hβ1 i q1]
      exact ⟨⟨fun q => (by rw [hloc] at q; cases q), fun _ => Nat.le_trans hsz (hb2 i q1 q2)⟩, z1, z2⟩
    · obtain ⟨i, q1, q2, rfl⟩ := (hnewI j).1 hj
      obtain ⟨i', q1', q2', rfl⟩ := (hnewI j').1 hj'
      rw [hβ1 i q1, hβ1 i' q1'] at e
      rw [hpost.inj i i' q1 q1' e]
    · obtain ⟨i, q1, q2, rfl⟩ := (hnewI j).1 hj
      have hj2 : (g (.al j')).v ≠ .un := hj'
      have z1 := (h.al j' hj2).2.1
      have z2 := hb2 i q1 q2
      rw [hβ1 i q1] at e
      omega
    · obtain ⟨i, q1, q2, rfl⟩ := (hnewI j).1 hj
      have z1 := hown1 κ u hr _ hb
      have z2 := hb2 i q1 q2
      rw [hβ1 i q1] at z1
      omega
    · cases κ with
      | t t => rfl
      | al j =>
        have : j ∉ newI := fun hj => (hκ j hj).1 rfl
        show (if j ∈ newI then liveC else g (.al j)) = g (.al j)
        rw [if_neg this]
      | b j o =>
        have : j ∉ newI := fun hj => (hκ j hj).2 o rfl
        show (if j ∈ newI then upds g W (.b j o) else g1 (.b j o)) = g1 (.b j o)
        rw [if_neg this]
    · have e1 : g2 (.al j) = liveC := if_pos hj
      have e2 : ∀ o, g2 (.b j o) = upds g W (.b j o) := fun o => if_pos hj
      rw [e1]
      refine ⟨rfl, by simp [liveC], fun o => ?_⟩
      rw [e2]
      obtain ⟨i, q1, q2, rfl⟩ := (hnewI j).1 hj
      rcases hval i q1 o with q | q
      · exact q
      · rw [upds_none q]
        obtain ⟨z1, z2⟩ := hunb (f i) hj o
        exact ⟨z2, fun hne => absurd z1 hne⟩
  -- at last: what was handed over, as it is now
  have hg3 : ∀ κ, (∀ j o, j ∈ mapI f (idsOf D.hs) → κ ≠ .b j o) → upds g W κ = g2 κ := fun κ hκ => by
    cases κ with
    | t t => rw [upds_none (hWt t)]
    | al j =>
      by_cases hj : j ∈ newI
      · have e : g2 (.al j) = liveC := if_pos hj
        rw [e]
        have hm : Key.al j ∈ keysOf W := by
          obtain ⟨i, q1, q2, rfl⟩ := (hnewI j).1 hj
          obtain ⟨xs, hx⟩ := mem_ids q1
          rw [← hWdef, keysOf_append]
          exact List.mem_append_left _ (keysOf_mem (newW_mem.2 ⟨i, xs, newHS_mem.2 ⟨hx, q2⟩, .inl ⟨rfl, rfl⟩⟩))
        obtain ⟨c, hc, e⟩ := upds_in (g := g) hm
        rw [e]
        rcases hWmem _ _ hc with ⟨i, xs, q1, q2, ⟨_, q⟩ | ⟨_, _, _, q, _⟩⟩ | ⟨i, xs, _, _, _, _, _, q, _⟩
        · exact q
        · cases q
        · cases q
      · have e : g2 (.al j) = g (.al j) := if_neg hj
        rw [e, upds_none (fun hm => hj ((hnewI j).2 (hWal j hm)))]
    | b j o =>
      have hno : j ∉ mapI f (idsOf D.hs) := fun hj => hκ j o hj rfl
      by_cases hj : j ∈ newI
      · have e : g2 (.b j o) = upds g W (.b j o) := if_pos hj
        rw [e]
      · have e : g2 (.b j o) = g (.b j o) := (if_neg hj).trans (if_neg hno)
        rw [e, upds_none (fun hm => ?_)]
        obtain ⟨i, q1, q2⟩ := hWb j o hm
        by_cases hio : i ∈ idsOf D.hs
        · exact hno (mapI_mem.2 ⟨i, hio, q2⟩)
        · exact hj ((hnewI j).2 ⟨i, q1, hio, q2⟩)
  have hg2al : ∀ i, i ∈ idsOf D.hs → (g2 (.al (f i))).v ≠ .un := fun i hi => by
    have hj : f i ∉ newI := fun hj => hnotboth _ hj (mapI_mem.2 ⟨i, hi, rfl⟩)
    have e : g2 (.al (f i)) = g (.al (f i)) := if_neg hj
    rw [e]
    exact hlive i hi
  have h3 : Rel Dr w0 E0 S0 N wr' (upds g W) a w' β'' S' := by
    refine h2.hand (mapI f (idsOf D.hs)) (fun j hj => ?_) (Kept.refl _ _) (fun _ => Nat.le_refl _) (fun _ _ h => h) (fun _ _ h => .inl h) h2.sa hg3 (fun j o hj => ?_) (fun _ h => h) (fun j o hj hc => ?_)
    · obtain ⟨i, q1, rfl⟩ := mapI_mem.1 hj
      exact hg2al i q1
    · obtain ⟨i, q1, rfl⟩ := mapI_mem.1 hj
      rcases hval i (hsub i q1) o with q | q
      · exact q
      · rw [upds_none q]
        have hc : isCell (f i) o = false := by
          cases hc : isCell (f i) o with
          | true => exact absurd (hWin i (hsub i q1) o hc) q
          | false => rfl
        refine ⟨?_, fun hne => ?_⟩
        · cases hv : (g (.b (f i) o)).own with
          | none => rfl
          | some p =>
            obtain ⟨u, z1, _⟩ := h.own _ p hv
            rw [rv_obj hc] at z1
            cases z1
        · exfalso
          obtain ⟨hb, _⟩ := h.bx _ o hne
          have hobj : objId (f i) = true ∧ o = 0 := by
            cases hu : (g (.b (f i) o)).v.isUn with
            | false =>
              have := (hb.cell hu).1
              rw [hc] at this; cases this
            | true =>
              cases hv : (g (.b (f i) o)).v <;> rw [hv] at hb hu <;> first | exact ⟨hb.1, hb.2.1⟩ | exact absurd hv hne | cases hu
          obtain ⟨xs, hx⟩ := mem_ids (hsub i q1)
          obtain ⟨e1, e2, e3⟩ := hk2 i xs hx
          rw [← e1, hobj.1] at e3
          have hlt : 0 < xs.length := by rw [e3]; simp
          have hxo := List.getElem?_eq_getElem hlt
          refine q ?_
          rw [hobj.2, ← hWdef, keysOf_append]
          exact List.mem_append_right _ (keysOf_mem (oldW_mem.2 ⟨i, xs, oldHS_mem.2 ⟨hx, q1⟩, 0, _, hxo, rfl, rfl⟩))
    · obtain ⟨i, q1, rfl⟩ := mapI_mem.1 hj
      exact hwd _ (hWin i (hsub i q1) o hc)
  have hal3 : ∀ j, (g (.al j)).v ≠ .un ∨ j ∈ newI → (upds g W (.al j)).v ≠ .un := fun j hj => by
    rw [hg3 (.al j) (fun _ _ _ => by simp)]
    by_cases hjn : j ∈ newI
    · have e : g2 (.al j) = liveC := if_pos hjn
      rw [e]; simp [liveC]
    · have e : g2 (.al j) = g (.al j) := if_neg hjn
      rw [e]; exact hj.resolve_right hjn
  have halr : ∀ i, i ∈ idsOf D.hs' → (upds g W (.al (f i))).v ≠ .un := fun i hi => by
    by_cases hio : i ∈ idsOf D.hs
    · exact hal3 _ (.inl (hlive i hio))
    · exact hal3 _ (.inr ((hnewI _).2 ⟨i, hi, hio, rfl⟩))
  have hp3 : PtrOK (upds g W) := by
    intro κ j hj
    by_cases hm : κ ∈ keysOf W
    · obtain ⟨c, hc, e⟩ := upds_in (g := g) hm
      rw [e] at hj
      have key : ∀ i xs, (i, xs) ∈ D.hs' → ∀ (q : Nat) x, xs[q]? = some x → j ∈ (x.ren f).refs → (upds g W (.al j)).v ≠ .un := fun i xs hx q x hq hj => by
        obtain ⟨r, r1, rfl⟩ := refs_ren hj
        exact halr r (refsOK_mem (refsHS_mem ok7 hx) (List.mem_of_getElem? hq) r r1)
      rcases hWmem _ _ hc with ⟨i, xs, q1, q2, ⟨_, q⟩ | ⟨o', x, q3, q4, q5⟩⟩ | ⟨i, xs, q1, q2, o', x, q3, q4, q5⟩
      · rw [q] at hj; simp [liveC, FV.refs] at hj
      · rw [q5] at hj; exact key i xs q1 o' x q3 hj
      · rw [q5] at hj; exact key i xs q1 o' x q3 hj
    · rw [upds_none hm] at hj
      exact hal3 j (.inl (hp κ j hj))
  refine ⟨v, S', β'', rfl, h3, hp3, repF_ren.2 (hrv.ren (fun r hr => hβ1 r (subI_iff ok8 r hr))), fun j hj => ?_, fun t p hek => ?_⟩
  · obtain ⟨r, r1, rfl⟩ := refs_ren hj
    exact halr r (subI_iff ok8 r r1)
  · have hownp : OwsL (fun b => w.heap.size ≤ b) w' S' (partsO p v) := by rw [hek] at hown; exact hown
    refine hownp.imp (fun b hb hlt => ⟨⟨.inr (Nat.le_trans hsz hlt), fun j hj e' => ?_⟩, fun κ' v' hne hr' hb2' => ?_⟩)
    · by_cases hjn : j ∈ newI
      · obtain ⟨i, r1, r2, rfl⟩ := (hnewI j).1 hjn
        rw [hβ1 i r1] at e'
        exact hownb b (by rw [hek]; exact hb) i r1 e'
      · have hj2 : (g (.al j)).v ≠ .un := by
          rw [hg3 (.al j) (fun _ _ _ => by simp)] at hj
          have e : g2 (.al j) = g (.al j) := if_neg hjn
          rwa [e] at hj
        rw [hβ2 j (fun i r1 r2 r3 => hjn ((hnewI j).2 ⟨i, r1, r2, r3⟩))] at e'
        have := (h.al j hj2).2.1
        omega
    · have ho' := blk_ne hb2'
      have hk' : κ' ∉ keysOf W := fun hm => by
        obtain ⟨c, hc, e⟩ := upds_in (g := g) hm
        rw [e] at ho'
        rcases hWmem _ _ hc with ⟨i, xs, _, _, ⟨_, q⟩ | ⟨_, _, _, _, q⟩⟩ | ⟨i, xs, _, _, _, _, _, _, q⟩ <;> rw [q] at ho' <;> exact ho' rfl
      rw [upds_none hk'] at ho' hb2'
      have hrr : rv β'' a w' κ' = rv β a w κ' ∨ False := by
        cases κ' with
        | t t => exact .inl rfl
        | al j => exact .inl rfl
        | b j o =>
          have hjl := h.blv j o ho'
          have hjn : j ∉ newI := fun hj => by
            obtain ⟨i, r1, r2, rfl⟩ := (hnewI j).1 hj
            exact hjl (hnewal i r1 r2)
          by_cases hjo : j ∈ mapI f (idsOf D.hs)
          · exfalso
            obtain ⟨i, r1, rfl⟩ := mapI_mem.1 hjo
            have hc : isCell (f i) o = true := by
              cases hc : isCell (f i) o with
              | true => rfl
              | false =>
                cases hv : (g (.b (f i) o)).own with
                | none => exact absurd hv ho'
                | some p =>
                  obtain ⟨u, z1, _⟩ := h.own _ p hv
                  rw [rv_obj hc] at z1
                  cases z1
            exact hk' (hWin i (hsub i r1) o hc)
          · left
            rw [rv_ren (hβ2 j (fun i r1 r2 r3 => hjn ((hnewI j).2 ⟨i, r1, r2, r3⟩)))]
            exact rv_cell (cell_of_block (hk.block _ (h.al j hjl).2.1 (fun ⟨i, r1, r2⟩ => hjo (mapI_mem.2 ⟨i, r1, h.inj _ _ (hlive i r1) hjl r2⟩))) o)
      rcases hrr with hrr | hrr
      · rw [hrr] at hr'
        have := blk_lt h hr' hb2'
        omega
      · exact hrr
theorem hcall_ok (hG : GOK Dr E0 w0 G) {fid : FuncId} {vs : Array Value} {xs : List FV} (h : Rel Dr w0 E0 S0 N (fun κ => wr κ = true) g a w β S) (hp : PtrOK g) (hd : dstOK N o = true) (hN : Next Dr w0 E0 S0 N wr g ws K)
    (hl : vs.size = xs.length) (hr : ∀ (i : Nat) v x, vs[i]? = some v → xs[i]? = some x → RepF β S w v x) (hrun : ∀ fn, P.funcs[fid]? = some fn → (fn.name == "runtime.NumGoroutine") = false → fn.body.isSome = true → (execOp a.eval o).run P w = .ok (.enter fid vs) w)
    (he : vcT G P (.hcall fid fun D => tHcall o.dst xs D) g wr (fun _ v => v = ws)) : o.wp P a w K Q := by
  obtain ⟨D, hC, he⟩ := he
  obtain ⟨⟨fn, hfn, hname, hbody⟩, _⟩ := id hC
  have he : vcT G P (tHcall o.dst xs D) g wr (fun _ v => v = ws) := he
  unfold tHcall at he
  split at he
  · rename_i hok
    obtain ⟨⟨hargs⟩, he⟩ := he
    obtain ⟨h1, he⟩ := chkHs_ev he
    obtain ⟨h2, he⟩ := chkNew_ev he
    have hws : newW (assoc D.ρ) (newHS (idsOf D.hs) D.hs') ++ (oldW (assoc D.ρ) (oldHS (idsOf D.hs) D.hs') ++ resW (assoc D.ρ) o.dst D) = ws := he
    obtain ⟨q1, q2⟩ := argsLe_rep (vs := vs.toList) (by simpa using hl) (fun i v x hv hx => hr i v x (by simpa using hv) hx) hargs
    rw [renL_len] at q1
    have hcall := hcall_rel (wr' := WrP wr ws) hG h hp hC hok h1 h2 (vs := vs) ⟨by simpa using q1, fun i v y hv hy => q2 i v _ (by simpa using hv) (by rw [renL_at, hy]; rfl)⟩ (fun κ hk => .inl hk) (fun κ hk => .inr (by rw [← hws, ← List.append_assoc, keysOf_append]; exact List.mem_append_left _ hk))
    unfold Oper.wp
    rw [hrun fn hfn hname hbody]
    show Calls P fid _ w _
    refine hcall.mono ?_
    rintro e w' ⟨v, S', β'', rfl, hrel, hptr, hrv, hrl, hown⟩
    show K (a.put o.dst v) w'
    rw [← List.append_assoc] at hws
    cases hdst : o.dst with
    | none =>
      rw [hdst] at hws
      have hup : upds g ws = upds g (newW (assoc D.ρ) (newHS (idsOf D.hs) D.hs') ++ oldW (assoc D.ρ) (oldHS (idsOf D.hs) D.hs')) := by rw [← hws]; simp [resW]
      rw [← hup] at hrel hptr
      exact hN _ _ β'' S' hrel hptr
    | some d =>
      rw [hdst] at hws
      have hdN : d < N := by unfold dstOK at hd; rw [hdst] at hd; simpa [Nat.blt_eq] using hd
      have hup : upds g ws = upd (upds g (newW (assoc D.ρ) (newHS (idsOf D.hs) D.hs') ++ oldW (assoc D.ρ) (oldHS (idsOf D.hs) D.hs'))) (.t d) ⟨D.res.ren (assoc D.ρ), D.own, none⟩ := by
        rw [← hws, upds_append]
        rfl
      have h3 := hrel.put (c := ⟨D.res.ren (assoc D.ρ), D.own, none⟩) hdN hrv (hown d) (fun κ' e => by cases e) (wr' := WrP wr ws) (fun κ hk => hk) (.inr (by rw [← hws, keysOf_append]; simp [resW, keysOf]))
      have h4 := ptrOK_upd (κ := .t d) (c := ⟨D.res.ren (assoc D.ρ), D.own, none⟩) hptr (fun i => by simp) hrl
      rw [← hup] at h3 h4
      exact hN _ _ β'' S' h3 h4
  · exact he.elim
end
end Go.Proofs.YtbjfmkmaghapgaaGreatDoor.B
