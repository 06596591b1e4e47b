/-
The logic of pure values, continued: the operations on maps, iterators and closures. Condition: none.
-/
import Derived.Test.YtbjfmkmaghapgaaGreatDoorBOkM
set_option linter.unusedVariables false
set_option linter.unusedSimpArgs false
set_option linter.unnecessarySimpa false
namespace Go.Proofs.YtbjfmkmaghapgaaGreatDoor.B
open Go.RowKit
open Go.ChangeMaps (setBlock)

theorem objBox_hand {d : Nat} (h : d < 10000) : handId (objBox d) = false := by
  unfold handId objBox
  have : (20000 + d) / 10000 % 2 = 0 := by omega
  rw [this]
  rfl
theorem objBox_obj {d : Nat} (h : d < 10000) : objId (objBox d) = true := by
  unfold objId objBox
  have : (20000 + d) / 10000 % 4 = 2 := by omega
  rw [this]
  rfl
section
variable {G : World → Prop} {P : Program} {τ : Tau} {Dr : Prop} {w0 : World} {E0 : Nat → Nat → Prop} {S0 : Nat → Nat → Prop} {N : Nat} {wr : Key → Bool} {g : Key → C} {a : Act} {w : World} {β : Nat → Nat} {S : Nat → Nat → Prop}
variable {o : Oper} {K : Act → World → Prop} {Q : Exit → Act → World → Prop} {ws : List (Key × C)}
theorem new_fin {d : Tmp} {content : FV} {vf : Nat → FV} {ob : Obj} {v : Value} (hdst : o.dst = some d) (h : Rel Dr w0 E0 S0 N (fun κ => wr κ = true) g a w β S) (hp : PtrOK g) (hd : dstOK N o = true) (hN : Next Dr w0 E0 S0 N wr g ws K)
    (hrun : (execOp a.eval o).run P w = .ok (.value v) (w.alloc ob)) (hH : d < 10000 → ∀ β' : Nat → Nat, β' (objBox d) = w.heap.size → (∀ j, j ≠ objBox d → β' j = β j) → HoldsB β' S (w.alloc ob) (objBox d) 0 content ∧ RepF β' S (w.alloc ob) v (vf (objBox d)))
    (hr : ∀ i, i ∈ content.refs → (g (.al i)).v ≠ .un) (hv : ∀ j i, i ∈ (vf j).refs → i = j) (he : vcT G P (tNew d content vf) g wr (fun _ v => v = ws)) : o.wp P a w K Q := by
  have he' : vcT G P (if (g (.al (objBox d))).v.isNo = true ∧ Nat.blt d 10000 = true then .ret [(.al (objBox d), liveC), (.b (objBox d) 0, ⟨content, none, none⟩), (.t d, ⟨vf (objBox d), none, none⟩)] else .fail) g wr (fun _ v => v = ws) := he
  by_cases hu0 : (g (.al (objBox d))).v.isNo = true ∧ Nat.blt d 10000 = true
  · rw [if_pos hu0] at he'
    obtain ⟨hu, hd4⟩ := hu0
    have hd4' : d < 10000 := by simpa [Nat.blt_eq] using hd4
    have hid := objBox_hand hd4'
    have hH := hH hd4'
    generalize objBox d = B at he' hu hid hH
    have hws : [(Key.al B, liveC), (.b B 0, (⟨content, none, none⟩ : C)), (.t d, ⟨vf B, none, none⟩)] = ws := he'
    have hfree : (g (.al B)).v = .un := by cases hv : (g (.al B)).v <;> rw [hv] at hu <;> first | rfl | cases hu
    obtain ⟨β', hβ, hβo, h1⟩ := h.allocObj hid hp hfree ob content (fun β' q1 q2 => (hH β' q1 q2).1)
    have hrv := (hH β' hβ hβo).2
    unfold Oper.wp
    rw [hrun]
    show K (a.put o.dst _) _
    rw [hdst]
    have hdN : d < N := by unfold dstOK at hd; rw [hdst] at hd; simpa [Nat.blt_eq] using hd
    have hal : ∀ i, (g (.al i)).v ≠ .un → (upds (upd g (.al B) liveC) (boxF B 0 [content]) (.al i)).v ≠ .un := fun i hi => by
      rw [upds_boxF _ _ _ _ _ (fun _ _ e => by cases e)]
      by_cases e : i = B
      · subst e; rw [upd_same]; simp [liveC]
      · rw [upd_ne _ _ (by simpa using e)]; exact hi
    have hBl : (upds (upd g (.al B) liveC) (boxF B 0 [content]) (.al B)).v ≠ .un := by
      rw [upds_boxF _ _ _ _ _ (fun _ _ e => by cases e), upd_same]; simp [liveC]
    have hp1 : PtrOK (upds (upd g (.al B) liveC) (boxF B 0 [content])) := by
      intro κ i e
      refine hal i ?_
      have e' : i ∈ (upd (upd g (.al B) liveC) (.b B 0) ⟨content, none, none⟩ κ).v.refs := e
      by_cases k1 : κ = .b B 0
      · subst k1; rw [upd_same] at e'; exact hr i e'
      · rw [upd_ne _ _ k1] at e'
        by_cases k2 : κ = .al B
        · subst k2; rw [upd_same] at e'; simp [liveC, FV.refs] at e'
        · rw [upd_ne _ _ k2] at e'; exact hp _ _ e'
    have h2 := h1.put (c := ⟨vf B, none, none⟩) (v := v) hdN hrv (ownV_none _ _) (fun κ' e => by cases e) (wr' := WrP wr ws) (fun κ hk => .inl hk) (.inr (by rw [← hws]; simp [keysOf]))
    have hp2 := ptrOK_upd (κ := .t d) (c := ⟨vf B, none, none⟩) hp1 (fun i => by simp) (fun i e => by rw [hv B i e]; exact hBl)
    have hup : upds g ws = upd (upds (upd g (.al B) liveC) (boxF B 0 [content])) (.t d) ⟨vf B, none, none⟩ := by rw [← hws]; rfl
    rw [← hup] at h2 hp2
    exact hN _ _ β' S h2 hp2
  · rw [if_neg hu0] at he'
    exact he'.elim
theorem makeMap_ok (t : TypeId) (r : Option Operand) (ho : o.op = .makeMap t r) (h : Rel Dr w0 E0 S0 N (fun κ => wr κ = true) g a w β S) (hp : PtrOK g) (hd : dstOK N o = true) (hN : Next Dr w0 E0 S0 N wr g ws K)
    (he : vcT G P (opT P τ o) g wr (fun _ v => v = ws)) : o.wp P a w K Q := by
  simp only [opT, ho] at he
  split at he
  · rename_i d _ hdst _
    refine new_fin (content := .ents [] 0) (vf := .mp) (ob := .map #[] 0) (v := .map (some w.heap.size)) hdst h hp hd hN (by simp [execOp, ho, Instr.makeMap]) (fun hd4 β' q1 q2 => ⟨⟨objBox_obj hd4, rfl, #[], ?_, ⟨rfl, fun i e m he => by simp at he⟩, ⟨List.nodup_nil, fun b hb => by simp at hb⟩⟩, ?_⟩) (fun i hi => by simp [FV.refs] at hi) (fun j i hi => by simpa [FV.refs] using hi) he
    · rw [q1]; exact heap_alloc_new w _
    · show _ = _; rw [q1]
  · exact he.elim
theorem content_map (h : Rel Dr w0 E0 S0 N (fun κ => wr κ = true) g a w β S) {i : Nat} {es : List ME} {clk : Nat} (hc : (g (.b i 0)).v = .ents es clk) :
    objId i = true ∧ (g (.al i)).v ≠ .un ∧ ∃ arr, w.heap[β i]? = some (.map arr clk) ∧ EntR S w arr.toList es ∧ Stamped (es.map ME.born) clk := by
  obtain ⟨hb, hl⟩ := h.bx i 0 (by rw [hc]; simp)
  rw [hc] at hb
  exact ⟨hb.1, hl, hb.2.2⟩
theorem content_mapP (h : Rel Dr w0 E0 S0 N (fun κ => wr κ = true) g a w β S) {i : Nat} {es : List MP} {clk : Nat} (hc : (g (.b i 0)).v = .entp es clk) :
    objId i = true ∧ (g (.al i)).v ≠ .un ∧ ∃ arr, w.heap[β i]? = some (.map arr clk) ∧ EntQ β S w arr.toList es ∧ Stamped (es.map MP.born) clk := by
  obtain ⟨hb, hl⟩ := h.bx i 0 (by rw [hc]; simp)
  rw [hc] at hb
  exact ⟨hb.1, hl, hb.2.2⟩
theorem range_ok (hτ : TauOK P τ) (t : TypeId) (x : Operand) (ho : o.op = .range t x) (h : Rel Dr w0 E0 S0 N (fun κ => wr κ = true) g a w β S) (hp : PtrOK g) (hd : dstOK N o = true) (hN : Next Dr w0 E0 S0 N wr g ws K)
    (he : vcT G P (opT P τ o) g wr (fun _ v => v = ws)) : o.wp P a w K Q := by
  simp only [opT, ho] at he
  obtain ⟨c, he, hv, hc⟩ := opnd_ev hKt h he
  unfold tRange at he
  split at he
  · rename_i d ti i hdst hti hcv
    have hl := ptr_live (c := c) h hp hc i (by rw [hcv]; simp [FV.refs])
    rw [hcv] at hv
    have hx : a.eval x = .map (some (β i)) := hv
    have hu := hτ.u _ _ hti
    split at he
    · rename_i kt et hdesc
      rw [hdesc] at hu
      have fin : ∀ {clk : Nat} {arr : Array MapEntry}, w.heap[β i]? = some (.map arr clk) → vcT G P (tNew d (.iter i clk []) .it) g wr (fun _ v => v = ws) → o.wp P a w K Q := fun {clk arr} hm he => by
        refine new_fin (content := .iter i clk []) (vf := .it) (ob := .mapIter (some (β i)) clk #[] clk) (v := .pointer (some ⟨w.heap.size, 0, none⟩)) hdst h hp hd hN (by simp [execOp, ho, hx, Instr.range, run_underlying hu, Go.MapKept.run_getObj_map hm]) (fun hd4 β' q1 q2 => ⟨⟨objBox_obj hd4, rfl, ?_⟩, ?_⟩) (fun j hj => by simp [FV.refs] at hj; subst hj; exact hl) (fun j i hi => by simpa [FV.refs] using hi) he
        · have hne : i ≠ objBox d := fun e => by
            have he' : vcT G P (if (g (.al (objBox d))).v.isNo = true ∧ Nat.blt d 10000 = true then .ret [(.al (objBox d), liveC), (.b (objBox d) 0, ⟨.iter i clk [], none, none⟩), (.t d, ⟨.it (objBox d), none, none⟩)] else .fail) g wr (fun _ v => v = ws) := he
            split at he'
            · rename_i hu0
              rw [← e] at hu0
              have := hu0.1
              cases hv : (g (.al i)).v <;> rw [hv] at this <;> first | exact hl hv | cases this
            · exact he'.elim
          rw [q1, q2 i hne]; exact heap_alloc_new w _
        · show _ = _; rw [q1]
      have he' : vcT G P (match (g (.b i 0)).v with
        | .ents _ clk => tNew d (.iter i clk []) .it
        | .entp _ clk => tNew d (.iter i clk []) .it
        | _ => .fail) g wr (fun _ v => v = ws) := he
      split at he'
      · rename_i es clk hcc
        obtain ⟨_, _, arr, hm, _⟩ := content_map h hcc
        exact fin hm he'
      · rename_i es clk hcc
        obtain ⟨_, _, arr, hm, _⟩ := content_mapP h hcc
        exact fin hm he'
      · exact he'.elim
    · exact he.elim
  · rename_i d ti s hdst hti hcv
    rw [hcv] at hv
    have hx := (rep_lit hv).1
    have hu := hτ.u _ _ hti
    split at he
    · rename_i hdesc
      rw [hdesc] at hu
      refine new_fin (content := .siter s 0) (vf := .it) (ob := .stringIter s 0) (v := .pointer (some ⟨w.heap.size, 0, none⟩)) hdst h hp hd hN (by simp [execOp, ho, hx, Instr.range, run_underlying hu]) (fun hd4 β' q1 q2 => ⟨⟨objBox_obj hd4, rfl, ?_⟩, ?_⟩) (fun j hj => by simp [FV.refs] at hj) (fun j i hi => by simpa [FV.refs] using hi) he
      · rw [q1]; exact heap_alloc_new w _
      · show _ = _; rw [q1]
    · exact he.elim
  · exact he.elim
theorem entR_keys {arr : List MapEntry} {es : List ME} (h : EntR S w arr es) : KeyR S w arr (es.map ME.key) :=
  ⟨by rw [h.1]; simp, fun i e k he hk => by
    rw [List.getElem?_map] at hk
    cases hq : es[i]? with
    | none => rw [hq] at hk; cases hk
    | some m => rw [hq] at hk; simp at hk; subst hk; exact (h.2 i e m he hq).2.1⟩
theorem entQ_keys {arr : List MapEntry} {es : List MP} (h : EntQ β S w arr es) : KeyR S w arr (es.map MP.key) :=
  ⟨by rw [h.1]; simp, fun i e k he hk => by
    rw [List.getElem?_map] at hk
    cases hq : es[i]? with
    | none => rw [hq] at hk; cases hk
    | some m => rw [hq] at hk; simp at hk; subst hk; exact (h.2 i e m he hq).2.1⟩
/-- Another map's content in the same block. -/
theorem kept_setBlock {b : Nat} {o o' : Obj} (hb : w.heap[b]? = some o) : Kept (fun k => b = k) w (setBlock w b o') ∧ (setBlock w b o').heap.size = w.heap.size ∧ (setBlock w b o').heap[b]? = some o' ∧ ∀ k, k ≠ b → (setBlock w b o').heap[k]? = w.heap[k]? := by
  have hlt : b < w.heap.size := (Array.getElem?_eq_some_iff.1 hb).1
  have h1 : ∀ k, k ≠ b → (setBlock w b o').heap[k]? = w.heap[k]? := fun k hk => by
    show (w.heap.setIfInBounds b o')[k]? = _
    rw [Array.getElem?_setIfInBounds, if_neg (fun e => hk e.symm)]
  have h2 : (setBlock w b o').heap.size = w.heap.size := by show (w.heap.setIfInBounds b o').size = _; simp
  refine ⟨⟨rfl, rfl, rfl, by rw [h2]; exact Nat.le_refl _, fun k _ hk => h1 k (fun e => hk e.symm)⟩, h2, ?_, h1⟩
  show (w.heap.setIfInBounds b o')[b]? = _
  rw [Array.getElem?_setIfInBounds, if_pos rfl, if_pos hlt]
theorem map_fin {i : Nat} {x : FV} (hdst : o.dst = none) (h : Rel Dr w0 E0 S0 N (fun κ => wr κ = true) g a w β S) (hp : PtrOK g) (hN : Next Dr w0 E0 S0 N wr g ws K) (hobj : objId i = true) (hl : (g (.al i)).v ≠ .un) {ob ob' : Obj} (hb : w.heap[β i]? = some ob)
    (hrun : (execOp a.eval o).run P w = .ok .skip (setBlock w (β i) ob')) (hH : HoldsB β S (setBlock w (β i) ob') i 0 x) (hr : ∀ j, j ∈ x.refs → (g (.al j)).v ≠ .un) (hws : [(Key.b i 0, (⟨x, none, none⟩ : C))] = ws) : o.wp P a w K Q := by
  obtain ⟨k1, k2, _⟩ := kept_setBlock (o' := ob') hb
  have hrel := h.whole hl k1 (fun _ => Nat.le_refl _) k2 hH hobj (wr' := WrP wr ws) (fun κ hk => .inl hk)
  unfold Oper.wp
  rw [hrun]
  show K (a.put o.dst undef) _
  rw [hdst]
  have hup : upds g ws = upd g (.b i 0) ⟨x, none, none⟩ := by rw [← hws]; rfl
  rw [← hup] at hrel
  exact hN a _ β S hrel (by rw [hup]; exact ptrOK_upd hp (fun i => by simp) hr)
theorem S_same (h : Rel Dr w0 E0 S0 N (fun κ => wr κ = true) g a w β S) {i : Nat} (hl : (g (.al i)).v ≠ .un) {w' : World} (hb : ∀ k, k ≠ β i → w'.heap[k]? = w.heap[k]?) : ∀ b o, S b o → w'.cell? ⟨b, o, none⟩ = w.cell? ⟨b, o, none⟩ :=
  fun b o hs => cell_of_block (hb b (fun e => (h.al i hl).2.2 o (e ▸ hs))) o
theorem stamped_push {bs : List Nat} {clk : Nat} (h : Stamped bs clk) : Stamped (bs ++ [clk]) (clk + 1) := by
  refine ⟨?_, fun b hb => ?_⟩
  · rw [List.nodup_append]
    exact ⟨h.1, by simp, fun a ha b hb e => by simp at hb; subst hb; subst e; have := h.2 a ha; omega⟩
  · rcases List.mem_append.1 hb with hb | hb
    · have := h.2 b hb; omega
    · simp at hb; omega
theorem get_ev {κ : Key} {f : C → T} (he : vcT G P (.get κ f) g wr (fun _ v => v = ws)) : vcT G P (f (g κ)) g wr (fun _ v => v = ws) := he
theorem litEq_spec {p q : PV} {b : Bool} (h : litEq p q = some b) : (b = true ↔ p = q) ∧ ∀ d, litShape d p = true → litShape d q = true := by
  unfold litEq at h
  split at h
  · split at h
    · rename_i hk
      subst hk
      cases h
      exact ⟨by simp, fun d hd => by cases d <;> simp_all [litShape]⟩
    · cases h
  · cases h; exact ⟨by simp, fun d hd => by cases d <;> simp_all [litShape]⟩
  · cases h; exact ⟨by simp, fun d hd => by cases d <;> simp_all [litShape]⟩
  · cases h
theorem litEq_shape {kt : TypeId} {p q : PV} {b : Bool} (h : litEq p q = some b) (hp : keyShape τ kt p = true) : keyShape τ kt q = true := by
  unfold keyShape at hp ⊢
  split at hp
  · rename_i ti ht
    split at hp
    · rename_i fs hd
      split at hp
      · simp [litEq] at h
      · cases hp
    · rename_i hno
      have := (litEq_spec h).2 _ hp
      exact this
  · cases hp
theorem findP_spec {kt : TypeId} {key : PV} (hk : keyShape τ kt key = true) : ∀ {es : List MP} {r : Option MP}, findP key es = some r → (∀ e, e ∈ es → keyShape τ kt e.key = true) ∧ match r with
    | none => ∀ e, e ∈ es → e.key ≠ key
    | some e => ∃ j : Nat, es[j]? = some e ∧ e.key = key ∧ ∀ (j' : Nat) (e' : MP), es[j']? = some e' → e'.key = key → j' = j
  | [], r, h => by cases h; exact ⟨fun e he => by simp at he, fun e he => by simp at he⟩
  | e :: es, r, h => by
    unfold findP at h
    split at h
    · rename_i hb hr
      cases h
      obtain ⟨i1, i2⟩ := findP_spec hk hr
      have hek := (((litEq_spec hb).1).1 rfl).symm
      refine ⟨fun e' he' => ?_, 0, rfl, hek, fun j' e' hj' hk' => ?_⟩
      · rcases List.mem_cons.1 he' with rfl | he'
        · exact litEq_shape hb hk
        · exact i1 e' he'
      · cases j' with
        | zero => rfl
        | succ j' => exact absurd hk' (i2 e' (List.mem_of_getElem? (by simpa using hj')))
    · rename_i x hb hr
      cases h
      obtain ⟨i1, i2⟩ := findP_spec hk hr
      have hne : e.key ≠ key := fun q => by have := ((litEq_spec hb).1).2 q.symm; cases this
      refine ⟨fun e' he' => ?_, ?_⟩
      · rcases List.mem_cons.1 he' with rfl | he'
        · exact litEq_shape hb hk
        · exact i1 e' he'
      · cases r with
        | none =>
          intro e' he'
          rcases List.mem_cons.1 he' with rfl | he'
          · exact hne
          · exact i2 e' he'
        | some e' =>
          obtain ⟨j, h1, h2, h3⟩ := i2
          refine ⟨j + 1, by simpa using h1, h2, fun j' e2 hj' hk' => ?_⟩
          cases j' with
          | zero => simp at hj'; subst hj'; exact absurd hk' hne
          | succ j' => rw [h3 j' e2 (by simpa using hj') hk']
    · cases h
theorem entR_mono {w' : World} {arr : List MapEntry} {es : List ME} (h : EntR S w arr es) (hS : ∀ b o, S b o → w'.cell? ⟨b, o, none⟩ = w.cell? ⟨b, o, none⟩) : EntR S w' arr es := h.mono (fun _ _ h => h) hS
theorem mapUp_ok (hτ : TauOK P τ) (t : TypeId) (m k x : Operand) (ho : o.op = .mapUpdate t m k x ∨ o.op = .insert t m k x) (h : Rel Dr w0 E0 S0 N (fun κ => wr κ = true) g a w β S) (hp : PtrOK g) (hd : dstOK N o = true) (hN : Next Dr w0 E0 S0 N wr g ws K)
    (he : vcT G P (opnd m fun cm => opnd k fun ck => opnd x fun cx => tMapUp τ o.dst t cm ck cx) g wr (fun _ v => v = ws)) : o.wp P a w K Q := by
  obtain ⟨cm, he, hvm, hcm⟩ := opnd_ev hKt h he
  obtain ⟨ck, he, hvk, _⟩ := opnd_ev hKt h he
  obtain ⟨cx, he, hvx, hcx⟩ := opnd_ev hKt h he
  unfold tMapUp at he
  split at he
  · rename_i ti i key hdst hti hm hk
    rw [hm] at hvm
    rw [hk] at hvk
    have hmv : a.eval m = .map (some (β i)) := hvm
    have hu := hτ.u _ _ hti
    split at he
    · rename_i kt et hdesc
      rw [hdesc] at hu
      -- the run
      have upd1 : ∀ {arr : Array MapEntry} {clk : Nat} {ks : List PV}, w.heap[β i]? = some (.map arr clk) → keyShape τ kt key = true → (∀ q, q ∈ ks → keyShape τ kt q = true) → KeyR S w arr.toList ks →
          (((execOp a.eval o).run P w = .ok .skip (setBlock w (β i) (.map (arr.push { key := a.eval k, val := a.eval x, born := clk }) (clk + 1)))) ∧ ∀ q, q ∈ ks → q ≠ key) ∨
          ∃ (j : Nat) (e : MapEntry), ((execOp a.eval o).run P w = .ok .skip (setBlock w (β i) (.map (arr.modify j fun e => { e with key := a.eval k, val := a.eval x }) clk))) ∧ arr.toList[j]? = some e ∧ ks[j]? = some key := by
        intro arr clk ks hb hks hall hR
        have hset : ∀ o', (setObj (β i) o').run P w = .ok () (setBlock w (β i) o') := fun o' => Go.MapKept.run_setObj_map o' hb
        have hck := check_key (P := P) (S := S) (w := w) hτ hks hvk false
        rcases find_key (P := P) (S := S) (w := w) hτ hks hvk hR hall with ⟨f1, f2⟩ | ⟨j, e, f1, f2, f3, f4⟩
        · left
          refine ⟨?_, f2⟩
          rcases ho with ho | ho <;> simp [execOp, ho, hmv, Instr.mapUpdate, run_underlying hu, Go.MapKept.run_getObj_map hb, hck, f1, hset]
        · right
          refine ⟨j, e, ?_, f2, f3⟩
          have f2' : arr[j]? = some e := by simpa using f2
          have hsb : Instr.sameBits 10000 (a.eval k) (a.eval k) = true := by
            have hkv := key_val hks hvk
            unfold keyShape at hks
            split at hks
            · rename_i tk htk
              split at hks
              · rename_i fs hfs
                split at hks
                · rename_i cs
                  rw [Bool.and_eq_true] at hks
                  rw [hkv]
                  show Instr.sameBits (9999 + 1) (.agg _) (.agg _) = true
                  simp only [Instr.sameBits, beq_self_eq_true, Bool.true_and, List.all_eq_true]
                  intro p hpm
                  obtain ⟨q, hq, e⟩ := List.getElem_of_mem hpm
                  rw [List.getElem_zip] at e
                  rw [← e]
                  simp only [List.getElem_map, List.getElem_toArray]
                  have hq' : q < cs.length := by simp at hq; exact hq
                  obtain ⟨_, hl⟩ := fields_shape fs.toList 0 hks.2 cs[q] (List.getElem_mem hq')
                  obtain ⟨u, hu', _, _, hs⟩ := litShape_some hl
                  have e2 : litV cs[q] = u := by rw [hu']; rfl
                  simp only [e2]
                  exact hs 9999
                · cases hks
              · obtain ⟨u, hu', _, _, hs⟩ := litShape_some hks
                rw [hkv, hu']
                exact hs 10000
            · cases hks
          have hstay : (Instr.keyThatStays (((arr[j]?).map (·.key)).getD (a.eval k)) (a.eval k)).run P w = .ok (a.eval k) w := by
            rw [f2']
            simp [Instr.keyThatStays, f4, hsb]
          rcases ho with ho | ho <;> simp [execOp, ho, hmv, Instr.mapUpdate, run_underlying hu, Go.MapKept.run_getObj_map hb, hck, f1, hstay, hset]
      have he := get_ev he
      split at he
      · rename_i es clk val hcc hcx2
        rw [hcx2] at hvx
        obtain ⟨⟨hsh⟩, r, ⟨hlook⟩, he⟩ := he
        obtain ⟨hobj, hl, arr, hb, hE, hst⟩ := content_map h hcc
        have hall : ∀ q, q ∈ es.map ME.key → keyShape τ kt q = true := fun q hq => by
          obtain ⟨e, he1, rfl⟩ := List.mem_map.1 hq
          exact hsh.2 e he1
        rcases upd1 hb hsh.1 hall (entR_keys hE) with ⟨f1, f2⟩ | ⟨j, e, f1, f2, f3⟩
        · cases r with
          | some e0 => exact absurd hlook.2.1 (f2 _ (List.mem_map_of_mem hlook.1))
          | none =>
            have he2 := he _ ⟨rfl⟩ _ ⟨rfl⟩
            obtain ⟨_, _, k3, k4⟩ := kept_setBlock (w := w) (o' := .map (arr.push { key := a.eval k, val := a.eval x, born := clk }) (clk + 1)) hb
            have hS := S_same h hl k4
            refine map_fin (x := .ents (es ++ [(ME.mk clk key val)]) (clk + 1)) hdst h hp hN hobj hl hb f1 ⟨hobj, rfl, _, k3, ⟨by simp [hE.1], fun i' e m h1 h2 => ?_⟩, by simpa using stamped_push hst⟩ (fun j hj => by simp [FV.refs] at hj) he2
            rw [Array.toList_push] at h1
            rw [List.getElem?_append] at h1 h2
            rw [← hE.1] at h2
            split at h1
            · rename_i hlt
              rw [if_pos hlt] at h2
              exact (entR_mono hE hS).2 i' e m h1 h2
            · rename_i hlt
              rw [if_neg hlt] at h2
              have hz : i' - arr.toList.length = 0 := by
                cases hq : i' - arr.toList.length with
                | zero => rfl
                | succ q => rw [hq] at h1; simp at h1
              rw [hz] at h1 h2
              simp at h1 h2
              subst h1
              subst h2
              exact ⟨rfl, RepP.mono hvk (fun _ _ h => h) hS, RepP.mono hvx (fun _ _ h => h) hS⟩
        · have hm : ∃ m, es[j]? = some m ∧ m.key = key := by
            rw [List.getElem?_map] at f3
            cases hq : es[j]? with
            | none => rw [hq] at f3; cases f3
            | some m => rw [hq] at f3; simp at f3; exact ⟨m, rfl, f3⟩
          obtain ⟨m0, hm1, hm2⟩ := hm
          cases r with
          | none => exact absurd hm2 (hlook m0 (List.mem_of_getElem? hm1))
          | some e0 =>
            have hme : m0 = e0 := hlook.2.2 m0 (List.mem_of_getElem? hm1) hm2
            subst hme
            have he2 := he _ ⟨rfl⟩
            obtain ⟨_, _, k3, k4⟩ := kept_setBlock (w := w) (o' := .map (arr.modify j fun e => { e with key := a.eval k, val := a.eval x }) clk) hb
            have hS := S_same h hl k4
            have hborn : (setE es m0.born val).map ME.born = es.map ME.born := by
              unfold setE
              rw [List.map_map]
              refine List.map_congr_left (fun e _ => ?_)
              show (if e.born = m0.born then { e with val := val } else e).born = e.born
              split <;> rfl
            refine map_fin (x := .ents (setE es m0.born val) clk) hdst h hp hN hobj hl hb f1 ⟨hobj, rfl, _, k3, ⟨by simp [hE.1, setE], fun i' e m h1 h2 => ?_⟩, by rw [hborn]; exact hst⟩ (fun j hj => by simp [FV.refs] at hj) he2
            rw [Array.toList_modify, List.getElem?_modify] at h1
            unfold setE at h2
            rw [List.getElem?_map] at h2
            cases hq : es[i']? with
            | none => rw [hq] at h2; cases h2
            | some m1 =>
              cases hq1 : arr.toList[i']? with
              | none => rw [hq1] at h1; cases h1
              | some e1 =>
                rw [hq] at h2
                rw [hq1] at h1
                simp at h1 h2
                obtain ⟨z1, z2, z3⟩ := (entR_mono hE hS).2 i' e1 m1 hq1 hq
                by_cases hij : j = i'
                · subst hij
                  rw [hq] at hm1
                  cases hm1
                  rw [if_pos rfl] at h1 h2
                  subst h1
                  subst h2
                  exact ⟨z1, by rw [hm2]; exact RepP.mono hvk (fun _ _ h => h) hS, RepP.mono hvx (fun _ _ h => h) hS⟩
                · have hne : m1.born ≠ m0.born := fun q => by
                    have g1 : (es.map ME.born)[i']? = some m1.born := by rw [List.getElem?_map, hq]; rfl
                    have g2 : (es.map ME.born)[j]? = some m0.born := by rw [List.getElem?_map, hm1]; rfl
                    rw [← q] at g2
                    exact hij ((List.getElem?_inj (List.getElem?_eq_some_iff.1 g2).1 hst.1).1 (g2.trans g1.symm))
                  rw [if_neg hij] at h1
                  rw [if_neg hne] at h2
                  subst h1
                  subst h2
                  exact ⟨z1, z2, z3⟩
      · rename_i clk j' o' hcc hcx2
        have hlp := ptr_live (c := cx) h hp hcx j' (by rw [hcx2]; simp [FV.refs])
        rw [hcx2] at hvx
        have hxv : a.eval x = .pointer (some ⟨β j', o', none⟩) := hvx
        split at he
        · rename_i hsh
          obtain ⟨hobj, hl, arr, hb, hE, hst⟩ := content_map h hcc
          rcases upd1 hb hsh (ks := []) (fun q hq => by simp at hq) (entR_keys hE) with ⟨f1, f2⟩ | ⟨j, e, f1, f2, f3⟩
          · obtain ⟨_, _, k3, k4⟩ := kept_setBlock (w := w) (o' := .map (arr.push { key := a.eval k, val := a.eval x, born := clk }) (clk + 1)) hb
            have hS := S_same h hl k4
            have hz : arr.toList = [] := List.eq_nil_of_length_eq_zero hE.1
            refine map_fin (x := .entp [⟨clk, key, j', o'⟩] (clk + 1)) hdst h hp hN hobj hl hb f1 ⟨hobj, rfl, _, k3, ⟨by simp [hz], fun i' e m h1 h2 => ?_⟩, by simpa using stamped_push (bs := []) hst⟩ (fun j hj => by simp [FV.refs] at hj; subst hj; exact hlp) he
            rw [Array.toList_push, hz] at h1
            cases i' with
            | succ q => simp at h1
            | zero =>
              simp at h1 h2
              subst h1
              subst h2
              exact ⟨rfl, RepP.mono hvk (fun _ _ h => h) hS, hxv⟩
          · simp at f3
        · exact he.elim
      · rename_i es clk j' o' hcc hcx2
        have hlp := ptr_live (c := cx) h hp hcx j' (by rw [hcx2]; simp [FV.refs])
        rw [hcx2] at hvx
        have hxv : a.eval x = .pointer (some ⟨β j', o', none⟩) := hvx
        split at he
        · rename_i hsh
          split at he
          · rename_i hfp
            have hfs := findP_spec (τ := τ) hsh hfp
            obtain ⟨hobj, hl, arr, hb, hE, hst⟩ := content_mapP h hcc
            have hlive := hp (.b i 0)
            rw [hcc] at hlive
            rcases upd1 hb hsh (ks := es.map MP.key) (fun q hq => by
              obtain ⟨e, he1, rfl⟩ := List.mem_map.1 hq
              exact hfs.1 e he1) (entQ_keys hE) with ⟨f1, f2⟩ | ⟨j, e, f1, f2, f3⟩
            · obtain ⟨_, _, k3, k4⟩ := kept_setBlock (w := w) (o' := .map (arr.push { key := a.eval k, val := a.eval x, born := clk }) (clk + 1)) hb
              have hS := S_same h hl k4
              refine map_fin (x := .entp (es ++ [(MP.mk clk key j' o')]) (clk + 1)) hdst h hp hN hobj hl hb f1 ⟨hobj, rfl, _, k3, ⟨by simp [hE.1], fun i' e m h1 h2 => ?_⟩, by simpa using stamped_push hst⟩ (fun j hj => by
                simp [FV.refs] at hj
                rcases hj with ⟨e, he1, rfl⟩ | rfl
                · exact hlive _ (by simp [FV.refs]; exact ⟨e, he1, rfl⟩)
                · exact hlp) he
              rw [Array.toList_push] at h1
              rw [List.getElem?_append] at h1 h2
              rw [← hE.1] at h2
              split at h1
              · rename_i hlt
                rw [if_pos hlt] at h2
                exact (hE.mono (fun _ _ h => h) hS).2 i' e m h1 h2
              · rename_i hlt
                rw [if_neg hlt] at h2
                have hz : i' - arr.toList.length = 0 := by
                  cases hq : i' - arr.toList.length with
                  | zero => rfl
                  | succ q => rw [hq] at h1; simp at h1
                rw [hz] at h1 h2
                simp at h1 h2
                subst h1
                subst h2
                exact ⟨rfl, RepP.mono hvk (fun _ _ h => h) hS, hxv⟩
            · exfalso
              obtain ⟨e, he1, he2⟩ := List.mem_map.1 (List.mem_of_getElem? f3)
              exact hfs.2 e he1 he2
          · exact he.elim
        · exact he.elim
      · exact he.elim
    · exact he.elim
  · exact he.elim
theorem zeroP_rep (hτ : TauOK P τ) {t : TypeId} {ti : TI} (ht : τ t = some ti) : (zeroValue t).run P w = .ok ti.zero w ∧ RepP S w ti.zero (zeroP ti) := by
  refine ⟨run_zeroD hτ ht w, ?_⟩
  obtain ⟨z1, z2⟩ := hτ.z _ _ ht
  unfold zeroP
  cases hv : ti.zero with
  | agg cs =>
    rw [hv] at z2
    exact cellsP_rep z2
  | _ =>
    rw [hv] at z2
    refine cellP_rep _ ?_
    simpa [Value.cells] using z2
theorem lookup_ok (hτ : TauOK P τ) (t : TypeId) (m k : Operand) (ok : Bool) (ho : o.op = .lookup t m k ok) (h : Rel Dr w0 E0 S0 N (fun κ => wr κ = true) g a w β S) (hp : PtrOK g) (hd : dstOK N o = true) (hN : Next Dr w0 E0 S0 N wr g ws K)
    (he : vcT G P (opT P τ o) g wr (fun _ v => v = ws)) : o.wp P a w K Q := by
  simp only [opT, ho] at he
  obtain ⟨cm, he, hvm, hcm⟩ := opnd_ev hKt h he
  obtain ⟨ck, he, hvk, _⟩ := opnd_ev hKt h he
  unfold tLookup at he
  split at he
  · rename_i ti i key hti hm hk
    rw [hm] at hvm
    rw [hk] at hvk
    have hmv : a.eval m = .map (some (β i)) := hvm
    have hu := hτ.u _ _ hti
    split at he
    · rename_i kt et hdesc
      rw [hdesc] at hu
      split at he
      · rename_i te hte
        obtain ⟨hz, hzr⟩ := zeroP_rep (P := P) (S := S) (w := w) hτ hte
        have look1 : ∀ {arr : Array MapEntry} {clk : Nat} {ks : List PV}, w.heap[β i]? = some (.map arr clk) → keyShape τ kt key = true → (∀ q, q ∈ ks → keyShape τ kt q = true) → KeyR S w arr.toList ks →
            (((execOp a.eval o).run P w = .ok (.value (if ok = true then .tuple #[te.zero, .bool false] else te.zero)) w) ∧ ∀ q, q ∈ ks → q ≠ key) ∨
            ∃ (j : Nat) (e : MapEntry), ((execOp a.eval o).run P w = .ok (.value (if ok = true then .tuple #[e.val, .bool true] else e.val)) w) ∧ arr.toList[j]? = some e ∧ ks[j]? = some key := by
          intro arr clk ks hb hks hall hR
          have hck := check_key (P := P) (S := S) (w := w) hτ hks hvk arr.isEmpty
          rcases find_key (P := P) (S := S) (w := w) hτ hks hvk hR hall with ⟨f1, f2⟩ | ⟨j, e, f1, f2, f3, f4⟩
          · left
            refine ⟨?_, f2⟩
            simp [execOp, ho, hmv, Instr.lookup, run_underlying hu, Go.MapKept.run_getObj_map hb, hck, f1, hz]
          · right
            refine ⟨j, e, ?_, f2, f3⟩
            simp [execOp, ho, hmv, Instr.lookup, run_underlying hu, Go.MapKept.run_getObj_map hb, hck, f1]
        have outT : ∀ {v : Value} {p : PV} {b : Bool}, (execOp a.eval o).run P w = .ok (.value (if ok = true then .tuple #[v, .bool b] else v)) w → RepP S w v p → vcT G P (outP o.dst ok p b) g wr (fun _ v => v = ws) → o.wp P a w K Q := fun {v p b} hr hv he => by
          unfold outP at he
          cases ok with
          | true =>
            refine finWP hN hd hr h hp ?_ he
            refine .tup _ _ rfl (fun i u x hu hx => ?_)
            match i with
            | 0 => simp at hu hx; subst hu; subst hx; exact hv
            | 1 => simp at hu hx; subst hu; subst hx; exact .lit _ rfl
            | i + 2 => simp at hx
          | false => exact finWP hN hd hr h hp hv he
        have he := get_ev he
        split at he
        · rename_i es clk hcc
          obtain ⟨⟨hsh⟩, r, ⟨hlook⟩, he⟩ := he
          obtain ⟨hobj, hl, arr, hb, hE, hst⟩ := content_map h hcc
          have hall : ∀ q, q ∈ es.map ME.key → keyShape τ kt q = true := fun q hq => by
            obtain ⟨e, he1, rfl⟩ := List.mem_map.1 hq
            exact hsh.2 e he1
          rcases look1 hb hsh.1 hall (entR_keys hE) with ⟨f1, f2⟩ | ⟨j, e, f1, f2, f3⟩
          · cases r with
            | some e0 => exact absurd hlook.2.1 (f2 _ (List.mem_map_of_mem hlook.1))
            | none => exact outT f1 hzr he
          · have hm : ∃ m, es[j]? = some m ∧ m.key = key := by
              rw [List.getElem?_map] at f3
              cases hq : es[j]? with
              | none => rw [hq] at f3; cases f3
              | some m => rw [hq] at f3; simp at f3; exact ⟨m, rfl, f3⟩
            obtain ⟨m0, hm1, hm2⟩ := hm
            cases r with
            | none => exact absurd hm2 (hlook m0 (List.mem_of_getElem? hm1))
            | some e0 =>
              have hme : m0 = e0 := hlook.2.2 m0 (List.mem_of_getElem? hm1) hm2
              subst hme
              exact outT f1 (hE.2 j e m0 f2 hm1).2.2 he
        · rename_i es clk hcc
          split at he
          · rename_i hsh
            obtain ⟨hobj, hl, arr, hb, hE, hst⟩ := content_mapP h hcc
            split at he
            · rename_i e0 hfp
              obtain ⟨i1, j0, i2, i3, i4⟩ := findP_spec (τ := τ) hsh hfp
              rcases look1 hb hsh (ks := es.map MP.key) (fun q hq => by
                obtain ⟨e, he1, rfl⟩ := List.mem_map.1 hq
                exact i1 e he1) (entQ_keys hE) with ⟨f1, f2⟩ | ⟨j, e, f1, f2, f3⟩
              · exact absurd i3 (f2 _ (List.mem_map_of_mem (List.mem_of_getElem? i2)))
              · have hj : j = j0 := by
                  rw [List.getElem?_map] at f3
                  cases hq : es[j]? with
                  | none => rw [hq] at f3; cases f3
                  | some m => rw [hq] at f3; simp at f3; exact i4 j m hq f3
                subst hj
                have hval := (hE.2 j e e0 f2 i2).2.2
                have hlp : (g (.al e0.i)).v ≠ .un := hp (.b i 0) e0.i (by rw [hcc]; simp [FV.refs]; exact ⟨e0, List.mem_of_getElem? i2, rfl⟩)
                cases ok with
                | true => exact finWV hN hd f1 h hp (x := .tupf [.ptr e0.i e0.o, .pv (.lit (.bool true))]) ⟨[e.val, .bool true], rfl, hval, .lit _ rfl, trivial⟩ (fun i' hi' => by simp [FV.refs, refsC, CV.refs] at hi'; subst hi'; exact hlp) he
                | false => exact finWV hN hd f1 h hp (x := .ptr e0.i e0.o) hval (fun i' hi' => by simp [FV.refs] at hi'; subst hi'; exact hlp) he
            · rename_i hfp
              obtain ⟨i1, i2⟩ := findP_spec (τ := τ) hsh hfp
              rcases look1 hb hsh (ks := es.map MP.key) (fun q hq => by
                obtain ⟨e, he1, rfl⟩ := List.mem_map.1 hq
                exact i1 e he1) (entQ_keys hE) with ⟨f1, f2⟩ | ⟨j, e, f1, f2, f3⟩
              · exact outT f1 hzr he
              · exfalso
                obtain ⟨e, he1, he2⟩ := List.mem_map.1 (List.mem_of_getElem? f3)
                exact i2 e he1 he2
            · exact he.elim
          · exact he.elim
        · exact he.elim
      · exact he.elim
    · exact he.elim
  · exact he.elim
theorem bornP_spec {b : Nat} : ∀ {es : List MP} {e : MP}, bornP b es = some e → e ∈ es ∧ e.born = b
  | [], e, h => by cases h
  | x :: es, e, h => by
    unfold bornP at h
    split at h
    · cases h; exact ⟨List.mem_cons_self .., by assumption⟩
    · obtain ⟨h1, h2⟩ := bornP_spec h
      exact ⟨List.mem_cons_of_mem _ h1, h2⟩
theorem entry_ok (x : Operand) (ho : o.op = .entry x) (h : Rel Dr w0 E0 S0 N (fun κ => wr κ = true) g a w β S) (hp : PtrOK g) (hd : dstOK N o = true) (hN : Next Dr w0 E0 S0 N wr g ws K)
    (he : vcT G P (opT P τ o) g wr (fun _ v => v = ws)) : o.wp P a w K Q := by
  simp only [opT, ho] at he
  obtain ⟨c, he, hv, hc⟩ := opnd_ev hKt h he
  unfold tEntry at he
  split at he
  · rename_i i hcv
    rw [hcv] at hv
    have hx : a.eval x = .pointer (some ⟨β i, 0, none⟩) := hv
    have he := get_ev he
    split at he
    · rename_i m clk b rest hci
      obtain ⟨hb, hli⟩ := h.bx i 0 (by rw [hci]; simp)
      rw [hci] at hb
      obtain ⟨_, _, hit⟩ := hb
      rw [show (b :: rest).reverse.toArray = rest.reverse.toArray.push b by simp] at hit
      have hbn : ∀ {arr : Array MapEntry} {clk' : Nat} {e : MapEntry}, w.heap[β m]? = some (.map arr clk') → clk = clk' → e ∈ arr.toList → e.born = b → (arr.toList.map (·.born)).Nodup → (execOp a.eval o).run P w = .ok (.value (.tuple #[e.key, e.val])) w := fun {arr clk' e} hb hc hm hbe hn => by
        subst hc
        subst hbe
        simp [execOp, ho, hx, run_entry_at (P := P) w (β i) (β m) clk rest.reverse.toArray arr clk e hit hb hm hn]
      have he := get_ev he
      split at he
      · rename_i es clk' hcc
        obtain ⟨⟨hck⟩, e, ⟨hem, heb⟩, he⟩ := he
        obtain ⟨_, hl, arr, hb, hE, hst⟩ := content_map h hcc
        obtain ⟨j, hj, hje⟩ := List.mem_iff_getElem.1 hem
        have hj' : j < arr.toList.length := by rw [hE.1]; exact hj
        have g1 := List.getElem?_eq_getElem hj'
        have g2 : es[j]? = some e := by rw [List.getElem?_eq_getElem hj, hje]
        obtain ⟨z1, z2, z3⟩ := hE.2 j _ e g1 g2
        have hbs : arr.toList.map (·.born) = es.map ME.born := by
          refine List.ext_getElem (by simpa using hE.1) (fun q q1 q2 => ?_)
          simp only [List.length_map] at q1 q2
          simp only [List.getElem_map]
          exact (hE.2 q _ _ (List.getElem?_eq_getElem q1) (List.getElem?_eq_getElem q2)).1
        refine finWP hN hd (hbn hb hck (List.getElem_mem hj') (by rw [z1, heb]) (by rw [hbs]; exact hst.1)) h hp (.tup _ _ rfl (fun q u p hu hp' => ?_)) he
        match q with
        | 0 => simp at hu hp'; subst hu; subst hp'; exact z2
        | 1 => simp at hu hp'; subst hu; subst hp'; exact z3
        | q + 2 => simp at hp'
      · rename_i es clk' hcc
        obtain ⟨⟨hck⟩, he⟩ := he
        obtain ⟨_, hl, arr, hb, hE, hst⟩ := content_mapP h hcc
        split at he
        · rename_i e hfb
          obtain ⟨hem, heb⟩ := bornP_spec hfb
          obtain ⟨j, hj, hje⟩ := List.mem_iff_getElem.1 hem
          have hj' : j < arr.toList.length := by rw [hE.1]; exact hj
          have g1 := List.getElem?_eq_getElem hj'
          have g2 : es[j]? = some e := by rw [List.getElem?_eq_getElem hj, hje]
          obtain ⟨z1, z2, z3⟩ := hE.2 j _ e g1 g2
          have hbs : arr.toList.map (·.born) = es.map MP.born := by
            refine List.ext_getElem (by simpa using hE.1) (fun q q1 q2 => ?_)
            simp only [List.length_map] at q1 q2
            simp only [List.getElem_map]
            exact (hE.2 q _ _ (List.getElem?_eq_getElem q1) (List.getElem?_eq_getElem q2)).1
          have hlp : (g (.al e.i)).v ≠ .un := hp (.b m 0) e.i (by rw [hcc]; simp [FV.refs]; exact ⟨e, hem, rfl⟩)
          exact finWV hN hd (hbn hb hck (List.getElem_mem hj') (by rw [z1, heb]) (by rw [hbs]; exact hst.1)) h hp (x := .tupf [.pv e.key, .ptr e.i e.o]) ⟨[_, _], rfl, z2, z3, trivial⟩ (fun i' hi' => by simp [FV.refs, refsC, CV.refs] at hi'; subst hi'; exact hlp) he
        · exact he.elim
      · exact he.elim
    · exact he.elim
  · exact he.elim
theorem capsOf_rep : ∀ {xs : List Operand} {cs : List C} {vs : List CV}, cs.length = xs.length → (∀ (i : Nat) x c, xs[i]? = some x → cs[i]? = some c → RepF β S w (a.eval x) c.v) → capsOf cs = some vs → RepC β S w (xs.map a.eval) vs
  | [], [], vs, _, _, h => by cases h; trivial
  | [], _ :: _, vs, hl, _, h => by simp at hl
  | _ :: _, [], vs, hl, _, h => by simp at hl
  | x :: xs, c :: cs, vs, hl, hr, h => by
    have h0 := hr 0 x c rfl rfl
    have ih := fun {r : List CV} => capsOf_rep (xs := xs) (cs := cs) (vs := r) (by simpa using hl) (fun i y d hy hd => hr (i + 1) y d (by simpa using hy) (by simpa using hd))
    unfold capsOf at h
    split at h
    · rename_i p r hv hr'
      cases h
      rw [hv] at h0
      exact ⟨h0, ih hr'⟩
    · rename_i i o r hv hr'
      cases h
      rw [hv] at h0
      exact ⟨h0, ih hr'⟩
    · rename_i i r hv hr'
      cases h
      rw [hv] at h0
      exact ⟨h0, ih hr'⟩
    · cases h
theorem capsOf_live (h : Rel Dr w0 E0 S0 N (fun κ => wr κ = true) g a w β S) (hp : PtrOK g) {K : List Key → List (Key × C) → Prop} (hK : ∀ k r v, K r v ↔ K (k :: r) v) : ∀ {xs : List Operand} {f : List C → T}, vcT G P (opnds xs f) g wr K →
    ∃ cs, vcT G P (f cs) g wr K ∧ cs.length = xs.length ∧ (∀ (i : Nat) x c, xs[i]? = some x → cs[i]? = some c → RepF β S w (a.eval x) c.v) ∧ ∀ c, c ∈ cs → ∀ i, i ∈ (c.v : FV).refs → (g (.al i)).v ≠ .un
  | [], f, he => ⟨[], he, rfl, fun i x c hx => by simp at hx, fun c hc => by simp at hc⟩
  | x :: xs, f, he => by
    obtain ⟨c, he1, h1, hc⟩ := opnd_ev hK h he
    obtain ⟨cs, he2, h2, h3, h4⟩ := capsOf_live h hp hK (xs := xs) (f := fun cs => f (c :: cs)) he1
    refine ⟨c :: cs, he2, by simp [h2], fun i y d hy hd => ?_, fun d hd => ?_⟩
    · cases i with
      | zero => simp at hy hd; subst hy; subst hd; exact h1
      | succ i => exact h3 i y d (by simpa using hy) (by simpa using hd)
    · rcases List.mem_cons.1 hd with rfl | hd
      · exact ptr_live (c := d) h hp hc
      · exact h4 d hd
theorem capsOf_refs : ∀ {cs : List C} {vs : List CV}, capsOf cs = some vs → ∀ i, i ∈ refsC vs → ∃ c, c ∈ cs ∧ i ∈ (c.v : FV).refs
  | [], vs, h, i, hi => by cases h; simp [refsC] at hi
  | c :: cs, vs, h, i, hi => by
    unfold capsOf at h
    have ih := fun {r : List CV} (hr : capsOf cs = some r) (hi : i ∈ refsC r) => capsOf_refs hr i hi
    split at h
    · rename_i p r hv hr
      cases h
      simp [refsC, CV.refs] at hi
      obtain ⟨d, h1, h2⟩ := ih hr hi
      exact ⟨d, List.mem_cons_of_mem _ h1, h2⟩
    · rename_i j o r hv hr
      cases h
      simp [refsC, CV.refs] at hi
      rcases hi with rfl | hi
      · exact ⟨c, List.mem_cons_self .., by rw [hv]; simp [FV.refs]⟩
      · obtain ⟨d, h1, h2⟩ := ih hr hi
        exact ⟨d, List.mem_cons_of_mem _ h1, h2⟩
    · rename_i j r hv hr
      cases h
      simp [refsC, CV.refs] at hi
      rcases hi with rfl | hi
      · exact ⟨c, List.mem_cons_self .., by rw [hv]; simp [FV.refs]⟩
      · obtain ⟨d, h1, h2⟩ := ih hr hi
        exact ⟨d, List.mem_cons_of_mem _ h1, h2⟩
    · cases h
theorem makeFunc_ok (fn : Fn) (first caps : Array Operand) (ho : o.op = .makeFunc fn first caps) (h : Rel Dr w0 E0 S0 N (fun κ => wr κ = true) g a w β S) (hp : PtrOK g) (hd : dstOK N o = true) (hN : Next Dr w0 E0 S0 N wr g ws K)
    (he : vcT G P (opT P τ o) g wr (fun _ v => v = ws)) : o.wp P a w K Q := by
  simp only [opT, ho] at he
  split at he
  · rename_i f hfirst
    have e1 : first = #[] := by rw [← Array.toArray_toList (xs := first), hfirst]
    subst e1
    obtain ⟨cs, he, hl, hr, hlv⟩ := capsOf_live h hp hKt he
    have hrun : (execOp a.eval o).run P w = .ok (.value (.func (.func f) #[] (caps.toList.map a.eval).toArray)) w := by
      simp [execOp, ho, Instr.makeFunc]
      rw [← Array.toList_map, Array.toArray_toList]
    split at he
    · rename_i hcs
      have hz : caps.toList = [] := by
        cases cs with
        | nil => exact List.eq_nil_of_length_eq_zero (by simpa using hl.symm)
        | cons c cs =>
          exfalso
          unfold capsOf at hcs
          split at hcs <;> cases hcs
      rw [hz] at hrun
      exact finWP hN hd hrun h hp (.lit _ rfl) he
    · rename_i vs _ hcs
      exact finWV hN hd hrun h hp (x := .clo f vs) ⟨_, rfl, capsOf_rep hl hr hcs⟩ (fun i hi => by
        obtain ⟨c, c1, c2⟩ := capsOf_refs hcs i hi
        exact hlv c c1 i c2) he
    · exact he.elim
  · exact he.elim
end
end Go.Proofs.YtbjfmkmaghapgaaGreatDoor.B
