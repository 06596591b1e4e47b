/-
slices.Sorted(slices.Values(texts)); are there two alike? Condition: that of slices.AppendSeq.
json.Check, walked. Conditions: scan.Valid's contract, slices.AppendSeq's.
json.Check, walked: the whole. Conditions: scan.Valid's contract, slices.AppendSeq's.
-/
import Derived.Test.YtbjfmkmaghapgaaGreatDoorJF
import Derived.Test.YtbjfmkmaghapgaaGreatDoorJG
import Derived.Test.YtbjfmkmaghapgaaGreatDoorBFun5
set_option linter.unusedVariables false
set_option linter.unusedSimpArgs false
namespace Go.Proofs.YtbjfmkmaghapgaaGreatDoor.B
open Go.RowKit
/-! ### plain -/
theorem dedupA_sub {α : Type} [DecidableEq α] : ∀ (l : List α), (dedupA l).Sublist l
  | [] => by simp [dedupA]
  | [a] => by simp [dedupA]
  | a :: b :: r => by
    have ih := dedupA_sub (b :: r)
    simp only [dedupA]
    split
    · exact ih.cons a
    · exact ih.cons_cons a
theorem dedupA_nodup {α : Type} [DecidableEq α] {R : α → α → Prop} (hR : ∀ a b, R a b → R b a → a = b) : ∀ (l : List α), l.Pairwise R → (dedupA l).Nodup
  | [], _ => by simp [dedupA]
  | [a], _ => by simp [dedupA]
  | a :: b :: r, h => by
    have h' := List.pairwise_cons.1 h
    have ih := dedupA_nodup hR (b :: r) h'.2
    simp only [dedupA]
    split
    · exact ih
    · rename_i e
      refine List.nodup_cons.2 ⟨fun hm => ?_, ih⟩
      have hm' := (dedupA_sub (b :: r)).subset hm
      rcases List.mem_cons.1 hm' with q | q
      · exact e q
      · exact e (hR a b (h'.1 b (by simp)) ((List.pairwise_cons.1 h'.2).1 a q))
theorem dedupA_of_nodup {α : Type} [DecidableEq α] : ∀ (l : List α), l.Nodup → dedupA l = l
  | [], _ => by simp [dedupA]
  | [a], _ => by simp [dedupA]
  | a :: b :: r, h => by
    have h' := List.nodup_cons.1 h
    simp only [dedupA]
    rw [if_neg (fun e => h'.1 (by rw [e]; simp)), dedupA_of_nodup (b :: r) h'.2]
theorem twice_nodup : ∀ (l : List ByteArray), twiceB l = false ↔ l.Nodup
  | [] => by simp [twiceB]
  | a :: l => by
    have ih := twice_nodup l
    rw [List.nodup_cons, ← ih]
    rw [show twiceB (a :: l) = (l.any (fun y => decide (a = y)) || twiceB l) from rfl, Bool.or_eq_false_iff]
    refine and_congr ?_ Iff.rfl
    rw [List.any_eq_false]
    constructor
    · intro h hm
      exact h a hm (by simp)
    · intro h x hx
      simp only [decide_eq_true_eq]
      intro e
      subst e
      exact h hx
theorem sortS_perm (l : List ByteArray) : (sortS l).Perm l := by
  unfold sortS
  have h := (List.mergeSort_perm (l.map bytesS) (fun x y => decide (x ≤ y))).map unS
  rw [List.map_map] at h
  have e : unS ∘ bytesS = id := by funext b; exact unS_bytes b
  rw [e, List.map_id] at h
  exact h
theorem sortS_sorted (l : List ByteArray) : (sortS l).Pairwise (fun a b => bytesS a ≤ bytesS b) := by
  have h := List.pairwise_mergeSort (le := fun x y : List UInt8 => decide (x ≤ y)) (fun a b c h1 h2 => by
    simp only [decide_eq_true_eq] at *
    exact List.le_trans h1 h2) (fun a b => by
    simp only [Bool.or_eq_true, decide_eq_true_eq]
    exact List.le_total a b) (l.map bytesS)
  rw [← sortS_bytes] at h
  rw [List.pairwise_map] at h
  exact h.imp (fun h => by simpa using h)
theorem bytesS_inj {a b : ByteArray} (h : bytesS a = bytesS b) : a = b := by rw [← unS_bytes a, h, unS_bytes]
theorem fewer_iff (l : List ByteArray) : (dedupA (sortS l)).length < l.length ↔ twiceB l = true := by
  have hn : (dedupA (sortS l)).Nodup := dedupA_nodup (fun a b h1 h2 => bytesS_inj (List.le_antisymm h1 h2)) _ (sortS_sorted l)
  have hl := sortS_len l
  have ht := twice_nodup l
  have hp : (sortS l).Nodup ↔ l.Nodup := (sortS_perm l).nodup_iff
  cases hb : twiceB l with
  | false =>
    have h1 := hp.2 (ht.1 hb)
    rw [dedupA_of_nodup _ h1, hl]
    simp
  | true =>
    have h1 : ¬ (sortS l).Nodup := fun h => by rw [ht.2 (hp.1 h)] at hb; cases hb
    simp only [iff_true]
    have h2 := (dedupA_sub (sortS l)).length_le
    have h3 : (dedupA (sortS l)).length ≠ (sortS l).length := fun e => h1 (by rw [← (dedupA_sub (sortS l)).eq_of_length e]; exact hn)
    omega
/-! ### walks -/
set_option maxRecDepth 100000 in
set_option maxHeartbeats 2000000 in
theorem collect_hc {G : World → Prop} (hD : ¬ ∀ w, G w) (ks : List ByteArray) (hl : ks.length ≤ 1000000) (KX : List (List PV)) (hK : ks.map encS = KX) (n : Nat) (hn : Is n (fun _ => KX.length)) (hpos : ks ≠ []) :
    HCalls G Tryz.prog 106 [.clo 108 [.ptr 50001 0]] [(50001, [.pv (.sl KX)])] (.slp 20004 1 0 n) none [(50001, [.pv (.sl KX)]), (20004, [.rows 1 KX])] := by
  refine hcalls_fn mixed tau_ok Tryz.func106 (by kernel_rfl) (by kernel_rfl) (by kernel_rfl) (by kernel_rfl) ?_
  intro Q hQ hH
  cbv
  refine ⟨⟨[.pv .nil, .clo 108 [.ptr 50001 0]], [(50001, [.pv (.sl KX)])], .slp 20000 1 0 n, none, [(50001, [.pv (.sl KX)]), (20000, [.rows 1 KX])], [(50001, 50001), (20000, 20004)]⟩, hH _ _ _ _ _ _ (appendSeq_hc hD ks hl KX hK n hn hpos), ?_⟩
  cbv
  exact ⟨⟨⟨Or.inr (Or.inl rfl), Or.inr (Or.inl rfl), trivial⟩⟩, ⟨Or.inr (Or.inl rfl)⟩, Le.refl _, ⟨Le.refl _, trivial⟩, ⟨Le.refl _, trivial⟩, trivial⟩
set_option maxRecDepth 100000 in
set_option maxHeartbeats 2000000 in
theorem collect0_hc {G : World → Prop} (hD : ¬ ∀ w, G w) :
    HCalls G Tryz.prog 106 [.clo 108 [.ptr 50001 0]] [(50001, [.pv (.sl [])])] (.pv (.sl [])) none [(50001, [.pv (.sl [])])] := by
  refine hcalls_fn mixed tau_ok Tryz.func106 (by kernel_rfl) (by kernel_rfl) (by kernel_rfl) (by kernel_rfl) ?_
  intro Q hQ hH
  cbv
  refine ⟨⟨[.pv .nil, .clo 108 [.ptr 50001 0]], [(50001, [.pv (.sl [])])], .pv (.sl []), none, [(50001, [.pv (.sl [])])], [(50001, 50001)]⟩, hH _ _ _ _ _ _ (appendSeq0_hc hD), ?_⟩
  cbv
  exact ⟨⟨⟨Or.inr (Or.inl rfl), Or.inr (Or.inl rfl), trivial⟩⟩, ⟨Or.inr (Or.inl rfl)⟩, Le.refl _, ⟨Le.refl _, trivial⟩, trivial⟩
set_option maxRecDepth 100000 in
set_option maxHeartbeats 2000000 in
theorem sorted_hc {G : World → Prop} (hD : ¬ ∀ w, G w) (ks : List ByteArray) (hl : ks.length ≤ 1000000) (KX : List (List PV)) (hK : ks.map encS = KX) (n : Nat) (hn : Is n (fun _ => KX.length)) (hpos : ks ≠ []) (Y : List (List PV)) (hY : Is Y (fun _ => (sortS ks).map encS)) :
    HCalls G Tryz.prog 91 [.clo 108 [.ptr 50001 0]] [(50001, [.pv (.sl KX)])] (.slp 20005 1 0 n) none [(50001, [.pv (.sl KX)]), (20005, [.rows 1 Y])] := by
  refine hcalls_fn mixed tau_ok Tryz.func91 (by kernel_rfl) (by kernel_rfl) (by kernel_rfl) (by kernel_rfl) ?_
  intro Q hQ hH
  cbv
  refine ⟨⟨[.clo 108 [.ptr 50001 0]], [(50001, [.pv (.sl KX)])], .slp 20004 1 0 n, none, [(50001, [.pv (.sl KX)]), (20004, [.rows 1 KX])], [(50001, 50001), (20004, 20005)]⟩, hH _ _ _ _ _ _ (collect_hc hD ks hl KX hK n hn hpos), ?_⟩
  cbv
  refine ⟨⟨⟨Or.inr (Or.inl rfl), trivial⟩⟩, ⟨Or.inr (Or.inl rfl)⟩, ?_⟩
  refine ⟨⟨[.slp 30000 1 0 n], [(30000, [.rows 1 KX])], .pv (.tup []), none, [(30000, [.rows 1 Y])], [(30000, 20005)]⟩, hH _ _ _ _ _ _ (sortStr_hc ks KX hK hl hpos n hn Y hY), ?_⟩
  cbv
  exact ⟨⟨⟨Or.inr (Or.inl rfl), trivial⟩⟩, ⟨Or.inr (Or.inl rfl)⟩, Le.refl _, ⟨Le.refl _, trivial⟩, ⟨Le.refl _, trivial⟩, trivial⟩
set_option maxRecDepth 100000 in
set_option maxHeartbeats 2000000 in
theorem sorted0_hc {G : World → Prop} (hst : Stable G) (hD : ¬ ∀ w, G w) :
    HCalls G Tryz.prog 91 [.clo 108 [.ptr 50001 0]] [(50001, [.pv (.sl [])])] (.pv (.sl [])) none [(50001, [.pv (.sl [])])] := by
  refine hcalls_fn mixed tau_ok Tryz.func91 (by kernel_rfl) (by kernel_rfl) (by kernel_rfl) (by kernel_rfl) ?_
  intro Q hQ hH
  cbv
  refine ⟨⟨[.clo 108 [.ptr 50001 0]], [(50001, [.pv (.sl [])])], .pv (.sl []), none, [(50001, [.pv (.sl [])])], [(50001, 50001)]⟩, hH _ _ _ _ _ _ (collect0_hc hD), ?_⟩
  cbv
  refine ⟨⟨⟨Or.inr (Or.inl rfl), trivial⟩⟩, ⟨Or.inr (Or.inl rfl)⟩, ?_⟩
  refine Or.inl ⟨_, _, hQ _ _ _ _ (sortStr0_ac hst hD), ?_⟩
  cbv
  exact ⟨Le.refl _, ⟨Le.refl _, trivial⟩, trivial⟩
set_option maxRecDepth 100000 in
set_option maxHeartbeats 2000000 in
theorem values_hc {G : World → Prop} (KX : List (List PV)) :
    HCalls G Tryz.prog 92 [.pv (.sl KX)] [] (.clo 108 [.ptr 40001 0]) none [(40001, [.pv (.sl KX)])] := by
  refine hcalls_fn mixed tau_ok Tryz.func92 (by kernel_rfl) (by kernel_rfl) (by kernel_rfl) (by kernel_rfl) ?_
  intro Q hQ hH
  cbv
  exact ⟨Le.refl _, ⟨Le.refl _, trivial⟩, trivial⟩
set_option maxRecDepth 100000 in
set_option maxHeartbeats 2000000 in
theorem compactStr0_ac {G : World → Prop} (hst : Stable G) :
    ACalls G Tryz.prog 90 [.sl []] (.sl []) none := by
  refine acalls_fn hst mixed tau_ok Tryz.func90 (by kernel_rfl) (by kernel_rfl) (by kernel_rfl) ?_
  intro Q hQ
  cbv
  intro m1 h1
  cbv
  intro b h2
  have e : b = true := by
    have e1 := h1.out
    have e2 := h2.out
    rw [e1] at e2
    rw [e2]
    rfl
  subst e
  cbv
  try exact ⟨rfl, trivial⟩
set_option maxRecDepth 100000 in
set_option maxHeartbeats 2000000 in
theorem wrong_ac {G : World → Prop} (hst : Stable G) (hV : ValidC G) (s : ByteArray) (hs : s.size ≤ 9223372036854775807) (c : Bool) (hc : Is c (fun _ => !validB s)) :
    ACalls G Tryz.prog 87 [.lit (.string s)] (.lit (.bool c)) none := by
  refine acalls_fn hst mixed tau_ok Tryz.func87 (by kernel_rfl) (by kernel_rfl) (by kernel_rfl) ?_
  intro Q hQ
  cbv
  refine Or.inl ⟨_, _, hQ _ _ _ _ (hV s hs), ?_⟩
  obtain ⟨v, hv⟩ : ∃ v, Is v (fun _ => validB s) := ⟨_, ⟨rfl⟩⟩
  rw [← hv.out]
  cbv
  intro b hb
  cbv
  refine litB ?_
  rw [hb.out, hc.out, hv.out]
end Go.Proofs.YtbjfmkmaghapgaaGreatDoor.B

set_option linter.unusedVariables false
set_option linter.unusedSimpArgs false
namespace Go.Proofs.YtbjfmkmaghapgaaGreatDoor.B
open Go.RowKit
theorem lookJ_mk (k n : Int) (t : ByteArray) (ks : List ByteArray) (is : List J) : lookJ (.mk k n t ks is) =
    if k < 1 ∨ 6 < k then 9 else if usedOK k n t ks.length is.length = false then 2
    else if validB t = false ∨ ks.all validB = false then 6 else if twiceB ks = true then 8 else looks is := by rw [lookJ]
theorem idxFrom_ge {α : Type} (p : α → Bool) : ∀ (l : List α) (n : Nat), (∃ x, x ∈ l ∧ p x = true) → (0 : Int) ≤ idxFrom p n l
  | [], n, h => by obtain ⟨x, hx, _⟩ := h; simp at hx
  | a :: l, n, h => by
    simp only [idxFrom]
    split
    · omega
    · rename_i hp
      obtain ⟨x, hx, hpx⟩ := h
      rcases List.mem_cons.1 hx with rfl | hx
      · exact absurd hpx hp
      · exact idxFrom_ge p l (n + 1) ⟨x, hx, hpx⟩
theorem idx_all (l : List ByteArray) : decide (0 ≤ idxBy (fun s => !validB s) l) = !l.all validB := by
  cases h : l.all validB with
  | true =>
    rw [List.all_eq_true] at h
    rw [idxBy_none (fun s => !validB s) l (fun i x hi hx => by rw [h x (List.mem_of_getElem? hx)]; rfl)]
    rfl
  | false =>
    rw [List.all_eq_false] at h
    obtain ⟨x, hx, hv⟩ := h
    exact decide_eq_true (idxFrom_ge _ l 0 ⟨x, hx, by simpa using hv⟩)
theorem okB_mk (k n : Int) (t : ByteArray) (ks : List ByteArray) (is : List J) (h : okB (.mk k n t ks is) = true) : t.size ≤ 9223372036854775807 ∧ (∀ s, s ∈ ks → s.size ≤ 9223372036854775807) ∧ okBs is = true := by
  rw [okB, Bool.and_eq_true, Bool.and_eq_true, List.all_eq_true] at h
  exact ⟨of_decide_eq_true h.1.1, fun s hs => of_decide_eq_true (h.1.2 s hs), h.2⟩
/-- None was wrong so far. -/
structure NoErr (is : List J) (k : Int) : Prop where
  lo : 0 ≤ k
  hi : k ≤ is.length
  all : looks is = looks (is.drop k.toNat)
theorem NoErr.step {is : List J} {k : Int} (h : NoErr is k) {x : J} (hx : is[k.toNat]? = some x) : looks is = if lookJ x = 0 then looks (is.drop (k.toNat + 1)) else lookJ x := by
  obtain ⟨hlt, hxe⟩ := List.getElem?_eq_some_iff.1 hx
  rw [h.all, List.drop_eq_getElem_cons hlt, hxe, looks]
set_option maxRecDepth 100000 in
set_option maxHeartbeats 16000000 in
theorem look_hc {G : World → Prop} (hst : Stable G) (hD : ¬ ∀ w, G w) (hV : ValidC G) : ∀ (sz : Nat) (x : J) (k n : Int) (t : ByteArray) (KX IX : List (List PV)), x.size ≤ sz → x.size ≤ 1000000 → okB x = true → JRow x k n t KX IX → ∀ (c : Int), Is c (fun _ => lookJ x) →
    HCalls G Tryz.prog 86 [.pv (jp k n t KX IX), .ptr 50001 0] [(50001, [.clo 86 [.ptr 50001 0]])] (.pv (.lit (.int .i64 c))) none [(50001, [.clo 86 [.ptr 50001 0]])]
  | 0, x, k, n, t, KX, IX, h, _, _, _, c, _ => by cases x; simp [J.size] at h
  | sz + 1, x, k, n, t, KX, IX, hsz, hbig, hok, hJ, c, hc => by
    obtain ⟨ks, is, rfl, hK, hI⟩ := hJ
    obtain ⟨ok1, ok2, ok3⟩ := okB_mk k n t ks is hok
    have hKl : KX.length = ks.length := by rw [← hK]; simp
    have hIl : IX.length = is.length := by rw [← hI]; simp
    have hlen := sizes_len is
    have hs1 : sizes is ≤ sz ∧ sizes is ≤ 1000000 ∧ ks.length ≤ 1000000 := by simp only [J.size] at hsz hbig; omega
    have ih := fun (x : J) (hx : x ∈ is) k n t KX IX (hJ : JRow x k n t KX IX) c hc => look_hc hst hD hV sz x k n t KX IX (by have := size_mem hx; omega) (by have := size_mem hx; omega) (okBs_mem ok3 hx) hJ c hc
    have hL := lookJ_mk k n t ks is
    refine hcalls_fn mixed tau_ok Tryz.func86 (by kernel_rfl) (by kernel_rfl) (by kernel_rfl) (by kernel_rfl) ?_
    intro Q hQ hH
    cbv
    intro b1 h1
    cbv
    cases b1
    · cbv
      intro b2 h2
      cbv
      cases b2
      · cbv
        obtain ⟨u, hu⟩ : ∃ u, Is u (fun _ => usedOK k n t KX.length IX.length) := ⟨_, ⟨rfl⟩⟩
        refine Or.inl ⟨_, _, hQ _ _ _ _ (used_ac hst k n t KX IX u hu), ?_⟩
        cbv
        intro b3 h3
        cbv
        cases u
        · have e : b3 = true := by have := h3.out; simpa using this
          subst e
          cbv
          obtain rfl : c = 2 := by
            rw [hc.out, hL, if_neg (fun q => q.elim h1.no h2.no), if_pos (by rw [← hKl, ← hIl]; exact hu.out.symm)]
          exact ⟨Le.refl _, ⟨Le.refl _, trivial⟩, trivial⟩
        · have e : b3 = false := by have := h3.out; simpa using this
          subst e
          have hL2 : lookJ (.mk k n t ks is) = if validB t = false ∨ ks.all validB = false then 6 else if twiceB ks = true then 8 else looks is := by
            rw [hL, if_neg (fun q => q.elim h1.no h2.no), if_neg (by rw [← hKl, ← hIl, ← hu.out]; simp)]
          cbv
          obtain ⟨v, hv⟩ : ∃ v, Is v (fun _ => !validB t) := ⟨_, ⟨rfl⟩⟩
          refine Or.inl ⟨_, _, hQ _ _ _ _ (wrong_ac hst hV t ok1 v hv), ?_⟩
          cbv
          cases v
          · cbv
            obtain ⟨u2, hu2⟩ : ∃ u, Is u (fun _ => decide (0 ≤ idxBy (fun s => !validB s) ks)) := ⟨_, ⟨rfl⟩⟩
            refine Or.inl ⟨_, _, hQ _ _ _ _ (containsFuncStr_ac hst ks KX hK hs1.2.2 87 (fun s => !validB s) (fun s hs => wrong_ac hst hV s (ok2 s hs) _ ⟨rfl⟩) u2 hu2), ?_⟩
            have hu3 := hu2.out.trans (idx_all ks)
            cbv
            cases u2
            · cbv
              have hL3 : lookJ (.mk k n t ks is) = if twiceB ks = true then 8 else looks is := by
                have q1 := hv.out
                rw [hL2, if_neg]
                rintro (q | q)
                · rw [q] at q1; cases q1
                · rw [q] at hu3; cases hu3
              refine Or.inr (Or.inl ⟨⟨[.pv (.sl KX)], [], .clo 108 [.ptr 40001 0], none, [(40001, [.pv (.sl KX)])], [(40001, 40035)]⟩, hH _ _ _ _ _ _ (values_hc KX), ?_⟩)
              cbv
              refine ⟨⟨⟨Or.inr (Or.inl rfl), trivial⟩⟩, ?_⟩
              by_cases hne : ks = []
              · obtain rfl : KX = [] := by rw [← hK, hne]; rfl
                refine ⟨⟨[.clo 108 [.ptr 50001 0]], [(50001, [.pv (.sl [])])], .pv (.sl []), none, [(50001, [.pv (.sl [])])], [(50001, 40035)]⟩, hH _ _ _ _ _ _ (sorted0_hc hst hD), ?_⟩
                cbv
                refine ⟨⟨⟨Or.inr (Or.inl rfl), trivial⟩⟩, ⟨Or.inr (Or.inl rfl)⟩, ?_⟩
                refine Or.inl ⟨_, _, hQ _ _ _ _ (compactStr0_ac hst), ?_⟩
                cbv
                intro m1 g1
                cbv
                intro m2 g2
                cbv
                intro b4 h4
                cbv
                have e4 : b4 = false := by
                  rw [h4.out, g1.out, g2.out]
                  exact decide_eq_false (by omega)
                subst e4
                have hL4 : lookJ (.mk k n t ks is) = looks is := by rw [hL3, hne]; rfl
                cbv
                intro m3 g3
                cbv
                refine Or.inr ⟨[1, 44, 45], [50001], Int, fun i => [(.t 46, ⟨.pv (.lit (.int .i64 i)), none, none⟩)], NoErr is, fun i => IX.length - i.toNat, 0, (show NoErr is 0 from ⟨by omega, by omega, by simp⟩), ?_, ?_⟩
                · cbv
                  simp
                · intro i hi
                  have hi : NoErr is i := hi
                  cbv
                  intro b5 h5
                  cbv
                  cases b5
                  · cbv
                    obtain rfl : c = 0 := by
                      have e1 := g3.len
                      have e2 := h5.no
                      rw [hc.out, hL4, hi.all, List.drop_of_length_le (by omega)]
                      rfl
                    exact ⟨Le.refl _, ⟨Le.refl _, trivial⟩, trivial⟩
                  · cbv
                    refine ⟨g3.atL hi.lo h5.yes, ?_⟩
                    intro r hr
                    obtain ⟨x, hx, rfl⟩ := hr.row hI
                    obtain ⟨k', n', t', KX', IX', hJ', he'⟩ := JRow.of x
                    rw [he']
                    cbv
                    obtain ⟨c', hc'⟩ : ∃ c', Is c' (fun _ => lookJ x) := ⟨_, ⟨rfl⟩⟩
                    refine ⟨⟨[.pv (jp k' n' t' KX' IX'), .ptr 50001 0], [(50001, [.clo 86 [.ptr 50001 0]])], .pv (.lit (.int .i64 c')), none, [(50001, [.clo 86 [.ptr 50001 0]])], [(50001, 50001)]⟩, hH _ _ _ _ _ _ (ih x (List.mem_of_getElem? hx) k' n' t' KX' IX' hJ' c' hc'), ?_⟩
                    cbv
                    refine ⟨⟨⟨Or.inr (Or.inl rfl), Or.inr (Or.inl rfl), trivial⟩⟩, ⟨Or.inr (Or.inl rfl)⟩, ?_⟩
                    intro b6 h6
                    cbv
                    have hst2 := hi.step hx
                    rw [← hc'.out] at hst2
                    cases b6
                    · cbv
                      intro i' hi'
                      cbv
                      have e1 := g3.len
                      have e2 := h5.yes
                      have e4 := hi'.add1 (by have := hi.lo; omega) (by omega)
                      refine ⟨i', ⟨by have := hi.lo; omega, by omega, ?_⟩, ?_, ?_⟩
                      · rw [hst2, if_pos (Decidable.not_not.1 h6.no), show i'.toNat = i.toNat + 1 by have := hi.lo; omega]
                      · show IX.length - i'.toNat < IX.length - i.toNat
                        have := hi.lo
                        omega
                      · cbv
                        simp
                    · cbv
                      obtain rfl : c = c' := by
                        rw [hc.out, hL4, hst2, if_neg h6.yes]
                      exact ⟨Le.refl _, ⟨Le.refl _, trivial⟩, trivial⟩
              · obtain ⟨nn, hnn⟩ : ∃ nn, Is nn (fun _ => KX.length) := ⟨_, ⟨rfl⟩⟩
                obtain ⟨Y, hY⟩ : ∃ Y, Is Y (fun _ => (sortS ks).map encS) := ⟨_, ⟨rfl⟩⟩
                refine ⟨⟨[.clo 108 [.ptr 50001 0]], [(50001, [.pv (.sl KX)])], .slp 20005 1 0 nn, none, [(50001, [.pv (.sl KX)]), (20005, [.rows 1 Y])], [(50001, 40035), (20005, 20036)]⟩, hH _ _ _ _ _ _ (sorted_hc hD ks hs1.2.2 KX hK nn hnn hne Y hY), ?_⟩
                cbv
                refine ⟨⟨⟨Or.inr (Or.inl rfl), trivial⟩⟩, ⟨Or.inr (Or.inl rfl)⟩, ?_⟩
                obtain ⟨m, hm⟩ : ∃ m, Is m (fun _ => (dedupA (sortS ks)).length) := ⟨_, ⟨rfl⟩⟩
                obtain ⟨Y2, hY2⟩ : ∃ Y2, Is Y2 (fun _ => (dedupA (sortS ks)).map encS ++ List.replicate (nn - m) (encS ⟨#[]⟩)) := ⟨_, ⟨rfl⟩⟩
                have hnY : Is nn (fun _ => Y.length) := ⟨by rw [hnn.out, hY.out, List.length_map, sortS_len, hKl]⟩
                refine ⟨⟨[.slp 30000 1 0 nn], [(30000, [.rows 1 Y])], .slp 30000 1 0 m, none, [(30000, [.rows 1 Y2])], [(30000, 20036)]⟩, hH _ _ _ _ _ _ (compactStr_hc (sortS ks) Y hY.out.symm (by rw [sortS_len]; exact hs1.2.2) nn hnY m hm Y2 hY2), ?_⟩
                cbv
                refine ⟨⟨⟨Or.inr (Or.inl rfl), trivial⟩⟩, ⟨Or.inr (Or.inl rfl)⟩, ?_⟩
                intro m1 g1
                cbv
                intro m2 g2
                cbv
                intro b4 h4
                cbv
                have e4 : b4 = true ↔ twiceB ks = true := by
                  rw [← fewer_iff ks, ← hKl, ← hm.out]
                  have e1 := g1.len
                  have e2 := g2.len
                  have e3 := is_b.1 h4
                  rw [e3]
                  omega
                cases b4
                · have hL4 : lookJ (.mk k n t ks is) = looks is := by
                    rw [hL3, if_neg (fun q => by have := e4.2 q; cases this)]
                  cbv
                  intro m3 g3
                  cbv
                  refine Or.inr ⟨[1, 44, 45], [50001], Int, fun i => [(.t 46, ⟨.pv (.lit (.int .i64 i)), none, none⟩)], NoErr is, fun i => IX.length - i.toNat, 0, (show NoErr is 0 from ⟨by omega, by omega, by simp⟩), ?_, ?_⟩
                  · cbv
                    simp
                  · intro i hi
                    have hi : NoErr is i := hi
                    cbv
                    intro b5 h5
                    cbv
                    cases b5
                    · cbv
                      obtain rfl : c = 0 := by
                        have e1 := g3.len
                        have e2 := h5.no
                        rw [hc.out, hL4, hi.all, List.drop_of_length_le (by omega)]
                        rfl
                      exact ⟨Le.refl _, ⟨Le.refl _, trivial⟩, trivial⟩
                    · cbv
                      refine ⟨g3.atL hi.lo h5.yes, ?_⟩
                      intro r hr
                      obtain ⟨x, hx, rfl⟩ := hr.row hI
                      obtain ⟨k', n', t', KX', IX', hJ', he'⟩ := JRow.of x
                      rw [he']
                      cbv
                      obtain ⟨c', hc'⟩ : ∃ c', Is c' (fun _ => lookJ x) := ⟨_, ⟨rfl⟩⟩
                      refine ⟨⟨[.pv (jp k' n' t' KX' IX'), .ptr 50001 0], [(50001, [.clo 86 [.ptr 50001 0]])], .pv (.lit (.int .i64 c')), none, [(50001, [.clo 86 [.ptr 50001 0]])], [(50001, 50001)]⟩, hH _ _ _ _ _ _ (ih x (List.mem_of_getElem? hx) k' n' t' KX' IX' hJ' c' hc'), ?_⟩
                      cbv
                      refine ⟨⟨⟨Or.inr (Or.inl rfl), Or.inr (Or.inl rfl), trivial⟩⟩, ⟨Or.inr (Or.inl rfl)⟩, ?_⟩
                      intro b6 h6
                      cbv
                      have hst2 := hi.step hx
                      rw [← hc'.out] at hst2
                      cases b6
                      · cbv
                        intro i' hi'
                        cbv
                        have e1 := g3.len
                        have e2 := h5.yes
                        have e4 := hi'.add1 (by have := hi.lo; omega) (by omega)
                        refine ⟨i', ⟨by have := hi.lo; omega, by omega, ?_⟩, ?_, ?_⟩
                        · rw [hst2, if_pos (Decidable.not_not.1 h6.no), show i'.toNat = i.toNat + 1 by have := hi.lo; omega]
                        · show IX.length - i'.toNat < IX.length - i.toNat
                          have := hi.lo
                          omega
                        · cbv
                          simp
                      · cbv
                        obtain rfl : c = c' := by
                          rw [hc.out, hL4, hst2, if_neg h6.yes]
                        exact ⟨Le.refl _, ⟨Le.refl _, trivial⟩, trivial⟩
                · cbv
                  obtain rfl : c = 8 := by
                    rw [hc.out, hL3, if_pos (e4.1 rfl)]
                  exact ⟨Le.refl _, ⟨Le.refl _, trivial⟩, trivial⟩
            · cbv
              obtain rfl : c = 6 := by
                rw [hc.out, hL2, if_pos (Or.inr (by simpa using hu3.symm))]
              exact ⟨Le.refl _, ⟨Le.refl _, trivial⟩, trivial⟩
          · cbv
            obtain rfl : c = 6 := by
              rw [hc.out, hL2, if_pos (Or.inl (by simpa using hv.out.symm))]
            exact ⟨Le.refl _, ⟨Le.refl _, trivial⟩, trivial⟩
      · cbv
        obtain rfl : c = 9 := by
          rw [hc.out, hL, if_pos (Or.inr h2.yes)]
        exact ⟨Le.refl _, ⟨Le.refl _, trivial⟩, trivial⟩
    · cbv
      obtain rfl : c = 9 := by
        rw [hc.out, hL, if_pos (Or.inl h1.yes)]
      exact ⟨Le.refl _, ⟨Le.refl _, trivial⟩, trivial⟩
end Go.Proofs.YtbjfmkmaghapgaaGreatDoor.B

set_option linter.unusedVariables false
set_option linter.unusedSimpArgs false
namespace Go.Proofs.YtbjfmkmaghapgaaGreatDoor.B
open Go.RowKit
set_option maxRecDepth 100000 in
set_option maxHeartbeats 4000000 in
theorem checkC {G : World → Prop} (hst : Stable G) (hD : ¬ ∀ w, G w) (hV : ValidC G) : CheckC G := by
  intro x k n t KX IX hbig hok hJ c hc
  refine acalls_fnH hst mixed tau_ok Tryz.func63 (by kernel_rfl) (by kernel_rfl) (by kernel_rfl) ?_
  intro Q hQ hH
  cbv
  obtain ⟨d, hd⟩ : ∃ d, Is d (fun _ => (x.depth : Int)) := ⟨_, ⟨rfl⟩⟩
  refine Or.inl ⟨_, _, hQ _ _ _ _ (depth_ac hst x.size x k n t KX IX (Nat.le_refl _) hbig hJ d hd), ?_⟩
  cbv
  intro b1 h1
  cbv
  cases b1
  · cbv
    obtain ⟨e, he⟩ : ∃ e, Is e (fun _ => (x.count : Int)) := ⟨_, ⟨rfl⟩⟩
    refine Or.inl ⟨_, _, hQ _ _ _ _ (count_ac hst x.size x k n t KX IX (Nat.le_refl _) hbig hJ e he), ?_⟩
    cbv
    intro b2 h2
    cbv
    have hc1 : checkJ x = if (400 : Int) < x.count then 4 else lookJ x := by
      have e1 := hd.len
      have e2 := h1.no
      unfold checkJ
      rw [if_neg (by omega)]
    cases b2
    · have hc2 : checkJ x = lookJ x := by
        have e1 := he.len
        have e2 := h2.no
        rw [hc1, if_neg (by omega)]
      cbv
      have hcl : Is c (fun _ => lookJ x) := ⟨by rw [hc.out, hc2]⟩
      refine ⟨⟨[.pv (jp k n t KX IX), .ptr 50001 0], [(50001, [.clo 86 [.ptr 50001 0]])], .pv (.lit (.int .i64 c)), none, [(50001, [.clo 86 [.ptr 50001 0]])], [(50001, 40003)]⟩, hH _ _ _ _ _ _ (look_hc hst hD hV x.size x k n t KX IX (Nat.le_refl _) hbig hok hJ c hcl), ?_⟩
      cbv
      refine ⟨⟨⟨Or.inr (Or.inl rfl), Or.inr (Or.inl rfl), trivial⟩⟩, ⟨Or.inr (Or.inl rfl)⟩, ?_⟩
      trivial
    · cbv
      refine litI ?_
      have e1 := he.len
      have e2 := h2.yes
      rw [hc.out, hc1]
      exact (if_pos (show (400 : Int) < (x.count : Int) by omega)).symm
  · cbv
    refine litI ?_
    have e1 := hd.len
    have e2 := h1.yes
    rw [hc.out]
    unfold checkJ
    rw [if_pos (by omega)]
end Go.Proofs.YtbjfmkmaghapgaaGreatDoor.B
