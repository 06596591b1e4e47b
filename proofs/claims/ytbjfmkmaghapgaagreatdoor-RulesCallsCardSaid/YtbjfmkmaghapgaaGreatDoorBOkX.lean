/-
The logic of pure values, continued: the next entry of a map, or character of a text. Condition: none.
-/
import Derived.Test.YtbjfmkmaghapgaaGreatDoorBOk7
import Derived.Laws.Cover3
set_option linter.unusedVariables false
set_option linter.unusedSimpArgs false
set_option linter.unnecessarySimpa false
namespace Go.Proofs.YtbjfmkmaghapgaaGreatDoor.B
open Go.RowKit
open Go.ChangeMaps (setBlock)

section
variable {G : World → Prop} {P : Program} {τ : Tau} {Dr : Prop} {w0 : World} {E0 : Nat → Nat → Prop} {S0 : Nat → Nat → Prop} {N : Nat} {wr : Key → Bool} {a : Act} {w : World} {β : Nat → Nat} {S : Nat → Nat → Prop}
variable {o : Oper} {K : Act → World → Prop} {Q : Exit → Act → World → Prop}
theorem allE_mem {p : ME → Prop} : ∀ {es : List ME}, allE es p → ∀ e, e ∈ es → p e
  | [], _, e, h => by simp at h
  | x :: es, h, e, he => by
    rcases List.mem_cons.1 he with rfl | he
    · exact h.1
    · exact allE_mem h.2 e he
theorem allP_mem {p : MP → Prop} : ∀ {es : List MP}, allP es p → ∀ e, e ∈ es → p e
  | [], _, e, h => by simp at h
  | x :: es, h, e, he => by
    rcases List.mem_cons.1 he with rfl | he
    · exact h.1
    · exact allP_mem h.2 e he
theorem dW_fin {s : St} {cont : List (Key × C) → Prop} {x : FV} {v : Value} {w' : World} {ws0 : List (Key × C)} (hd : dstOK N o = true) (hN : ∀ ws, cont ws → Next Dr w0 E0 S0 N wr s.get ws K)
    (hrun : (execOp a.eval o).run P w = .ok (.value v) w') (h : Rel Dr w0 E0 S0 N (WrP wr (ws0 ++ dW o.dst x)) (upds s.get ws0) a w' β S) (hp : PtrOK (upds s.get ws0)) (hv : RepF β S w' v x) (hc : ∀ i, i ∈ x.refs → (upds s.get ws0 (.al i)).v ≠ .un)
    (he : cont (ws0 ++ dW o.dst x)) : o.wp P a w K Q := by
  unfold Oper.wp
  rw [hrun]
  show K (a.put o.dst v) w'
  have hN := hN _ he
  unfold dstOK at hd
  cases hdst : o.dst with
  | none =>
    rw [hdst] at hN h
    have e : ws0 ++ dW none x = ws0 := by simp [dW]
    rw [e] at hN h
    exact hN _ _ β S h hp
  | some d =>
    rw [hdst] at hd hN h
    have e : upds s.get (ws0 ++ dW (some d) x) = upd (upds s.get ws0) (.t d) ⟨x, none, none⟩ := by rw [upds_append]; rfl
    refine hN _ _ β S ?_ (by rw [e]; exact ptrOK_upd hp (fun i => by simp) hc)
    rw [e]
    exact h.put (by simpa [Nat.blt_eq] using hd) hv (ownV_none _ _) (fun κ' e => by cases e) (fun κ hk => hk) (.inr (by rw [keysOf_append]; simp [dW, keysOf]))
theorem left_mem {arr : Array MapEntry} {seen : Array Nat} {e : MapEntry} (h : e ∈ (leftOf arr seen).toList) : e ∈ arr.toList ∧ e.born ∉ seen.toList := by
  unfold leftOf at h
  simp at h
  exact ⟨by simpa using h.1, by simpa using h.2⟩
theorem left_none {arr : Array MapEntry} {seen : Array Nat} (h : (leftOf arr seen).size = 0) : ∀ e, e ∈ arr.toList → e.born ∈ seen.toList := by
  intro e he
  by_cases hn : e.born ∈ seen.toList
  · exact hn
  · exfalso
    have : e ∈ leftOf arr seen := by
      unfold leftOf
      simp
      exact ⟨by simpa using he, by simpa using hn⟩
    have hz : leftOf arr seen = #[] := Array.eq_empty_of_size_eq_zero h
    rw [hz] at this
    simp at this
/-- The next entry. -/
theorem next_run {s : St} {i m clk : Nat} {seen : List Nat} {arr : Array MapEntry} {it : Operand} (ho : o.op = .next it false) (hit : a.eval it = .pointer (some ⟨β i, 0, none⟩)) (h : Rel Dr w0 E0 S0 N (fun κ => wr κ = true) s.get a w β S) (hp : PtrOK s.get)
    (hci : (s.get (.b i 0)).v = .iter m clk seen) (hb : w.heap[β m]? = some (.map arr clk)) (hst : ∀ x, x ∈ arr.toList → x.born < clk) :
    ((∀ e, e ∈ arr.toList → e.born ∈ seen) ∧ (execOp a.eval o).run P w = .ok (.value (.tuple #[.bool false])) w) ∨
    ∃ e w', e ∈ arr.toList ∧ e.born ∉ seen ∧ (execOp a.eval o).run P w = .ok (.value (.tuple #[.bool true, e.key, e.val])) w' ∧ (∀ b o, S b o → w'.cell? ⟨b, o, none⟩ = w.cell? ⟨b, o, none⟩) ∧
      ∀ wr' : Key → Prop, (∀ κ, wr κ = true → wr' κ) → Rel Dr w0 E0 S0 N wr' (upd s.get (.b i 0) ⟨.iter m clk (e.born :: seen), none, none⟩) a w' β S ∧ PtrOK (upd s.get (.b i 0) ⟨.iter m clk (e.born :: seen), none, none⟩) := by
  obtain ⟨hbx, hl⟩ := h.bx i 0 (by rw [hci]; simp)
  rw [hci] at hbx
  obtain ⟨hobj, _, hit'⟩ := hbx
  rcases run_next_at (P := P) w o.type (β i) (β m) clk clk seen.reverse.toArray arr clk hit' hb hst (Nat.le_refl _) with ⟨h1, h2⟩ | ⟨e, he, w1, hw1, h2⟩
  · left
    refine ⟨fun e he => by simpa using left_none h1 e he, ?_⟩
    simp [execOp, ho, hit, h2]
  · right
    obtain ⟨l1, l2⟩ := left_mem he
    have hw : Below w.heap.size w w1 := by
      rcases hw1 with rfl | rfl
      · exact Below.refl _ _
      · exact (Below.refl _ _).drew
    have hsz : w1.heap = w.heap := by rcases hw1 with rfl | rfl <;> rfl
    have hit1 : w1.heap[β i]? = some (.mapIter (some (β m)) clk seen.reverse.toArray clk) := by rw [hsz]; exact hit'
    obtain ⟨k1, k2, k3, k4⟩ := kept_setBlock (w := w1) (o' := .mapIter (some (β m)) clk (seen.reverse.toArray.push e.born) clk) hit1
    have hr1 := h.world hw (fun _ => by rcases hw1 with rfl | rfl; exact Nat.le_refl _; exact Nat.le_succ _)
    refine ⟨e, setBlock w1 (β i) (.mapIter (some (β m)) clk (seen.reverse.toArray.push e.born) clk), l1, by simpa using l2, by simp only [execOp, ho, hit, Sem.run_bind, h2, Result.andThen_ok, Sem.run_pure], fun b o' hs => ?_, fun wr' hwr => ⟨?_, ?_⟩⟩
    · have : b ≠ β i := fun q => (h.al i hl).2.2 o' (q ▸ hs)
      rw [cell_of_block (k4 b this) o']
      exact hw.cell (p := ⟨b, o', none⟩) (h.sa b o' hs)
    · refine hr1.whole hl k1 (fun _ => Nat.le_refl _) k2 (x := .iter m clk (e.born :: seen)) ⟨hobj, rfl, ?_⟩ hobj hwr
      rw [k3]
      simp
    · refine ptrOK_upd hp (fun i => by simp) (fun j hj => ?_)
      simp [FV.refs] at hj
      subst hj
      exact hp (.b i 0) j (by rw [hci]; simp [FV.refs])
theorem next_ok {s : St} {cont : List (Key × C) → Prop} {it : Operand} {str : Bool} (ho : o.op = .next it str) (h : Rel Dr w0 E0 S0 N (fun κ => wr κ = true) s.get a w β S) (hp : PtrOK s.get) (hd : dstOK N o = true)
    (hv : vcNext s it str o.dst cont) (hN : ∀ ws, cont ws → Next Dr w0 E0 S0 N wr s.get ws K) : o.wp P a w K Q := by
  have hval : RepF β S w (a.eval it) (s.val it) := by
    cases it with
    | tmp t => exact h.tm t
    | const v => exact constF_rep v
    | _ => trivial
  have over : (execOp a.eval o).run P w = .ok (.value (.tuple #[.bool false])) w → cont (dW o.dst overV) → o.wp P a w K Q := fun hr hc => by
    refine dW_fin (ws0 := []) (x := overV) hd hN hr (h.wider (fun κ hk => .inl hk)) hp (RepP.tup _ _ rfl (fun i v x hv hx => ?_)) (fun i hi => by simp [overV, FV.refs] at hi) hc
    match i with
    | 0 => simp at hv hx; subst hv; subst hx; exact .lit _ rfl
    | i + 1 => simp at hx
  unfold vcNext at hv
  split at hv
  · rename_i i hsv
    rw [hsv] at hval
    have hit : a.eval it = .pointer (some ⟨β i, 0, none⟩) := hval
    split at hv
    · rename_i m clk seen hci
      split at hv
      · rename_i es clk' hcm
        obtain ⟨⟨hck⟩, hov, hall⟩ := hv
        subst hck
        obtain ⟨_, hlm, arr, hb, hE, hst⟩ := content_map h hcm
        have hborn : ∀ x, x ∈ arr.toList → ∃ q, q ∈ es ∧ x.born = q.born ∧ RepP S w x.key q.key ∧ RepP S w x.val q.val := fun x hx => by
          obtain ⟨j, hj, rfl⟩ := List.mem_iff_getElem.1 hx
          have hj' : j < es.length := by rw [← hE.1]; exact hj
          exact ⟨es[j], List.getElem_mem hj', hE.2 j _ _ (List.getElem?_eq_getElem hj) (List.getElem?_eq_getElem hj')⟩
        have hborn' : ∀ q, q ∈ es → ∃ x, x ∈ arr.toList ∧ x.born = q.born := fun q hq => by
          obtain ⟨j, hj, rfl⟩ := List.mem_iff_getElem.1 hq
          have hj' : j < arr.toList.length := by rw [hE.1]; exact hj
          exact ⟨arr.toList[j], List.getElem_mem hj', (hE.2 j _ _ (List.getElem?_eq_getElem hj') (List.getElem?_eq_getElem hj)).1⟩
        rcases next_run (P := P) ho hit h hp hci hb (fun x hx => by
          obtain ⟨q, q1, q2, _⟩ := hborn x hx
          rw [q2]; exact hst.2 _ (List.mem_map_of_mem q1)) with ⟨h1, h2⟩ | ⟨e, w', h1, h2, h3, h4, h5⟩
        · refine over h2 (hov ⟨fun b hb => ?_⟩)
          obtain ⟨q, q1, rfl⟩ := List.mem_map.1 hb
          obtain ⟨x, x1, x2⟩ := hborn' q q1
          rw [← x2]
          exact h1 x x1
        · obtain ⟨q, q1, q2, q3, q4⟩ := hborn e h1
          have hc := allE_mem hall q q1 ⟨by rw [← q2]; exact h2⟩
          rw [← q2] at hc
          obtain ⟨r1, r2⟩ := h5 (WrP wr ([(.b i 0, ⟨.iter m clk (e.born :: seen), none, none⟩)] ++ dW o.dst (.pv (.tup [.lit (.bool true), q.key, q.val])))) (fun κ hk => .inl hk)
          refine dW_fin (ws0 := [(.b i 0, ⟨.iter m clk (e.born :: seen), none, none⟩)]) hd hN h3 r1 r2 (RepP.tup _ _ rfl (fun j v x hv hx => ?_)) (fun i hi => by simp [FV.refs] at hi) hc
          match j with
          | 0 => simp at hv hx; subst hv; subst hx; exact .lit _ rfl
          | 1 => simp at hv hx; subst hv; subst hx; exact q3.mono (fun _ _ h => h) h4
          | 2 => simp at hv hx; subst hv; subst hx; exact q4.mono (fun _ _ h => h) h4
          | j + 3 => simp at hx
      · rename_i es clk' hcm
        obtain ⟨⟨hck⟩, hov, hall⟩ := hv
        subst hck
        obtain ⟨_, hlm, arr, hb, hE, hst⟩ := content_mapP h hcm
        have hborn : ∀ x, x ∈ arr.toList → ∃ q, q ∈ es ∧ x.born = q.born ∧ RepP S w x.key q.key ∧ x.val = .pointer (some ⟨β q.i, q.o, none⟩) := fun x hx => by
          obtain ⟨j, hj, rfl⟩ := List.mem_iff_getElem.1 hx
          have hj' : j < es.length := by rw [← hE.1]; exact hj
          exact ⟨es[j], List.getElem_mem hj', hE.2 j _ _ (List.getElem?_eq_getElem hj) (List.getElem?_eq_getElem hj')⟩
        have hborn' : ∀ q, q ∈ es → ∃ x, x ∈ arr.toList ∧ x.born = q.born := fun q hq => by
          obtain ⟨j, hj, rfl⟩ := List.mem_iff_getElem.1 hq
          have hj' : j < arr.toList.length := by rw [hE.1]; exact hj
          exact ⟨arr.toList[j], List.getElem_mem hj', (hE.2 j _ _ (List.getElem?_eq_getElem hj') (List.getElem?_eq_getElem hj)).1⟩
        rcases next_run (P := P) ho hit h hp hci hb (fun x hx => by
          obtain ⟨q, q1, q2, _⟩ := hborn x hx
          rw [q2]; exact hst.2 _ (List.mem_map_of_mem q1)) with ⟨h1, h2⟩ | ⟨e, w', h1, h2, h3, h4, h5⟩
        · refine over h2 (hov ⟨fun b hb => ?_⟩)
          obtain ⟨q, q1, rfl⟩ := List.mem_map.1 hb
          obtain ⟨x, x1, x2⟩ := hborn' q q1
          rw [← x2]
          exact h1 x x1
        · obtain ⟨q, q1, q2, q3, q4⟩ := hborn e h1
          have hc := allP_mem hall q q1 ⟨by rw [← q2]; exact h2⟩
          rw [← q2] at hc
          obtain ⟨r1, r2⟩ := h5 (WrP wr ([(.b i 0, ⟨.iter m clk (e.born :: seen), none, none⟩)] ++ dW o.dst (.tupf [.pv (.lit (.bool true)), .pv q.key, .ptr q.i q.o]))) (fun κ hk => .inl hk)
          refine dW_fin (ws0 := [(.b i 0, ⟨.iter m clk (e.born :: seen), none, none⟩)]) hd hN h3 r1 r2 ⟨[.bool true, e.key, e.val], rfl, .lit _ rfl, q3.mono (fun _ _ h => h) h4, q4, trivial⟩ (fun j hj => ?_) hc
          simp [FV.refs, refsC, CV.refs] at hj
          subst hj
          show (upd s.get (.b i 0) ⟨.iter m clk (e.born :: seen), none, none⟩ (.al q.i)).v ≠ .un
          rw [upd_ne _ _ (by simp)]
          exact hp (.b m 0) q.i (by rw [hcm]; simp [FV.refs]; exact ⟨q, q1, rfl⟩)
      · exact hv.elim
    · exact hv.elim
  · rename_i i hsv
    rw [hsv] at hval
    have hit : a.eval it = .pointer (some ⟨β i, 0, none⟩) := hval
    split at hv
    · rename_i t pos hci
      obtain ⟨hbx, hl⟩ := h.bx i 0 (by rw [hci]; simp)
      rw [hci] at hbx
      obtain ⟨hobj, _, hit'⟩ := hbx
      have hget : ∀ w', w'.heap[β i]? = some (.stringIter t pos) → (getObj (β i)).run P w' = .ok (.stringIter t pos) w' := fun w' hw' => by simp [getObj, Sem.run, hw']
      by_cases hlt : pos < t.size
      · have hv := hv true ⟨by simp [hlt]⟩
        rw [if_pos rfl] at hv
        have hc := hv _ _ ⟨rfl⟩ _ ⟨rfl⟩
        obtain ⟨k1, k2, k3, k4⟩ := kept_setBlock (w := w) (o' := .stringIter t (pos + (Utf8.decode t pos).2)) hit'
        have hset : (setObj (β i) (.stringIter t (pos + (Utf8.decode t pos).2))).run P w = .ok () (setBlock w (β i) (.stringIter t (pos + (Utf8.decode t pos).2))) := by simp [setObj, Sem.run, hit', setBlock]
        have hrun : (execOp a.eval o).run P w = .ok (.value (.tuple #[.bool true, .int .i64 pos, .int .i32 (Utf8.decode t pos).1])) (setBlock w (β i) (.stringIter t (pos + (Utf8.decode t pos).2))) := by
          simp [execOp, ho, hit, Instr.next, hget w hit', hlt, hset, goInt]
        refine dW_fin (ws0 := [(.b i 0, ⟨.siter t (pos + (Utf8.decode t pos).2), none, none⟩)]) (x := .pv (.tup [.lit (.bool true), .lit (.int .i64 pos), .lit (.int .i32 (Utf8.decode t pos).1)])) hd hN hrun (h.whole hl k1 (fun _ => Nat.le_refl _) k2 (x := .siter t (pos + (Utf8.decode t pos).2)) ⟨hobj, rfl, k3⟩ hobj (fun κ hk => .inl hk)) (ptrOK_upd hp (fun i => by simp) (fun j hj => by simp [FV.refs] at hj)) (RepP.tup _ _ rfl (fun j v x hv hx => ?_)) (fun i hi => by simp [FV.refs] at hi) hc
        match j with
        | 0 => simp at hv hx; subst hv; subst hx; exact .lit _ rfl
        | 1 => simp at hv hx; subst hv; subst hx; exact .lit _ rfl
        | 2 => simp at hv hx; subst hv; subst hx; exact .lit _ rfl
        | j + 3 => simp at hx
      · have hv := hv false ⟨by simp [hlt]⟩
        rw [if_neg (by simp)] at hv
        exact over (by simp [execOp, ho, hit, Instr.next, hget w hit', hlt]) hv
    · exact hv.elim
  · exact hv.elim
theorem run_nil {ty : TypeId} {e : TypeId} (hu : P.underlying ty = some (.slice e)) (neg : Bool) (A : Option Addr) (n c : Nat) : (binOp (if neg = true then .neq else .eql) ty (.slice A n c) (.slice none 0 0)).run P w = .ok (.bool (negB neg A.isNone)) w := by
  have h := run_equal_slice_nil (P := P) w ty e A n c hu
  cases neg
  · simp only [Bool.false_eq_true, if_false, binOp, Sem.run_bind, h, Result.andThen_ok, Sem.run_pure, negB]
  · simp only [if_true, binOp, Sem.run_bind, h, Result.andThen_ok, Sem.run_pure, negB]
theorem nil_ok (hτ : TauOK P τ) {s : St} {cont : List (Key × C) → Prop} {neg : Bool} {ty yt : TypeId} {x : Operand} (ho : o.op = .binOp (if neg = true then .neq else .eql) ty x (.const (.slice none 0 0)) yt) (h : Rel Dr w0 E0 S0 N (fun κ => wr κ = true) s.get a w β S) (hp : PtrOK s.get) (hd : dstOK N o = true)
    (hv : vcNil τ s neg ty x o.dst cont) (hN : ∀ ws, cont ws → Next Dr w0 E0 S0 N wr s.get ws K) : o.wp P a w K Q := by
  have hval : RepF β S w (a.eval x) (s.val x) := by
    cases x with
    | tmp t => exact h.tm t
    | const v => exact constF_rep v
    | _ => trivial
  unfold vcNil at hv
  split at hv
  · rename_i ti hti
    have hu := hτ.u _ _ hti
    have fin : ∀ {e : TypeId} {A : Option Addr} {n c : Nat}, ti.desc = .slice e → a.eval x = .slice A n c → cont (dW o.dst (boolV neg A.isNone)) → o.wp P a w K Q := fun {e A n c} hdesc hx hc => by
      rw [hdesc] at hu
      have hrun : (execOp a.eval o).run P w = .ok (.value (.bool (negB neg A.isNone))) w := by
        have hg : (eqGuard (if neg = true then .neq else .eql) ty x (.const (.slice none 0 0)) (.slice A n c) (.slice none 0 0)).run P w = .ok () w := by
          cases neg <;> simp [eqGuard]
        have hc : a.eval (.const (.slice none 0 0)) = .slice none 0 0 := rfl
        simp only [execOp, ho, Sem.run_bind, hx, hc, hg, Result.andThen_ok, run_nil hu, Sem.run_pure]
      refine dW_fin (ws0 := []) (x := boolV neg A.isNone) hd hN hrun (h.wider (fun κ hk => .inl hk)) hp (RepP.lit _ rfl) (fun i hi => by simp [boolV, FV.refs] at hi) hc
    split at hv
    · rename_i e xs hdesc hsv
      rw [hsv] at hval
      rcases rep_sl hval with ⟨⟨A, q⟩, rfl⟩ | ⟨b, off, k, cap, q, _⟩
      · exact fin hdesc q (hv _ ⟨fun _ => rfl⟩)
      · exact fin hdesc q (hv _ ⟨fun hh => by cases hh⟩)
    · rename_i e hdesc hsv
      rw [hsv] at hval
      exact fin hdesc (rep_nil hval) hv
    · rename_i e i k lo n hdesc hsv
      rw [hsv] at hval
      obtain ⟨cap, off, _, hx, _⟩ := hval
      exact fin hdesc hx hv
    · exact hv.elim
  · exact hv.elim
end
end Go.Proofs.YtbjfmkmaghapgaaGreatDoor.B
