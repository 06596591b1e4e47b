/-
Values of type Json: depth and count. Condition: none.
-/
import Derived.Test.YtbjfmkmaghapgaaGreatDoorBLib
set_option linter.unusedVariables false
set_option linter.unusedSimpArgs false
namespace Go.Proofs.YtbjfmkmaghapgaaGreatDoor.B
open Go.RowKit
/-- A value of type Json. -/
inductive J where
  | mk (kind n : Int) (text : ByteArray) (keys : List ByteArray) (items : List J)
def encS (s : ByteArray) : List PV := [.lit (.string s)]
mutual
def encJ : J → List PV
  | .mk k n t ks is => [.lit (.int .i64 k), .lit (.int .i64 n), .lit (.string t), .sl (ks.map encS), .sl (encJs is)]
def encJs : List J → List (List PV)
  | [] => []
  | j :: r => encJ j :: encJs r
end
theorem encJs_map : ∀ (l : List J), encJs l = l.map encJ
  | [] => rfl
  | j :: r => by simp [encJs, encJs_map r]
abbrev jp (k n : Int) (t : ByteArray) (KX IX : List (List PV)) : PV := .agg [.lit (.int .i64 k), .lit (.int .i64 n), .lit (.string t), .sl KX, .sl IX]
theorem jp_eq (k n : Int) (t : ByteArray) (ks : List ByteArray) (is : List J) : PV.agg (encJ (.mk k n t ks is)) = jp k n t (ks.map encS) (is.map encJ) := by simp [encJ, encJs_map]
mutual
/-- So many values, it and all within, with their keys. -/
def J.size : J → Nat
  | .mk _ _ _ ks is => 1 + ks.length + sizes is
def sizes : List J → Nat
  | [] => 0
  | j :: r => j.size + sizes r
end
mutual
def J.depth : J → Nat
  | .mk k _ _ _ is => if k = 5 ∨ k = 6 then depths is + 1 else 0
def depths : List J → Nat
  | [] => 0
  | j :: r => max j.depth (depths r)
end
mutual
def J.count : J → Nat
  | .mk _ _ _ _ is => 1 + counts is
def counts : List J → Nat
  | [] => 0
  | j :: r => j.count + counts r
end
mutual
theorem depth_le : ∀ (j : J), j.depth ≤ j.size
  | .mk k n t ks is => by
    simp only [J.depth, J.size]
    have := depths_le is
    split <;> omega
theorem depths_le : ∀ (l : List J), depths l ≤ sizes l
  | [] => Nat.le_refl _
  | j :: r => by
    simp only [depths, sizes]
    have := depth_le j
    have := depths_le r
    omega
end
mutual
theorem count_le : ∀ (j : J), j.count ≤ j.size
  | .mk k n t ks is => by
    simp only [J.count, J.size]
    have := counts_le is
    omega
theorem counts_le : ∀ (l : List J), counts l ≤ sizes l
  | [] => Nat.le_refl _
  | j :: r => by
    simp only [counts, sizes]
    have := count_le j
    have := counts_le r
    omega
end
theorem size_mem {j : J} : ∀ {l : List J}, j ∈ l → j.size ≤ sizes l
  | [], h => by simp at h
  | i :: r, h => by
    simp only [sizes]
    rcases List.mem_cons.1 h with rfl | h
    · omega
    · have := size_mem h; omega
theorem sizes_len : ∀ (l : List J), l.length ≤ sizes l
  | [] => Nat.le_refl _
  | j :: r => by
    simp only [sizes, List.length_cons]
    have := sizes_len r
    cases j; simp only [J.size]; omega
theorem depths_take (l : List J) : ∀ (k : Nat) (j : J), l[k]? = some j → depths (l.take (k + 1)) = max (depths (l.take k)) j.depth := by
  induction l with
  | nil => intro k j h; simp at h
  | cons i r ih =>
    intro k j h
    cases k with
    | zero => simp at h; subst h; simp [depths]
    | succ k =>
      have := ih k j (by simpa using h)
      simp only [List.take_succ_cons, depths]
      rw [this]
      omega
theorem counts_take (l : List J) : ∀ (k : Nat) (j : J), l[k]? = some j → counts (l.take (k + 1)) = counts (l.take k) + j.count := by
  induction l with
  | nil => intro k j h; simp at h
  | cons i r ih =>
    intro k j h
    cases k with
    | zero => simp at h; subst h; simp [counts]
    | succ k =>
      have := ih k j (by simpa using h)
      simp only [List.take_succ_cons, counts]
      rw [this]
      omega
theorem counts_take_le (l : List J) (k : Nat) : counts (l.take k) ≤ counts l := by
  induction l generalizing k with
  | nil => simp
  | cons i r ih =>
    cases k with
    | zero => simp [counts]
    | succ k => simp only [List.take_succ_cons, counts]; have := ih k; omega
theorem depths_take_le (l : List J) (k : Nat) : depths (l.take k) ≤ depths l := by
  induction l generalizing k with
  | nil => simp
  | cons i r ih =>
    cases k with
    | zero => simp [depths]
    | succ k => simp only [List.take_succ_cons, depths]; have := ih k; omega
/-! ### holds -/
theorem litB {b c : Bool} (h : b = c) : PV.lit (.bool b) = PV.lit (.bool c) ∧ True := ⟨by rw [h], trivial⟩
theorem litI {b c : Int} {k : IntKind} (h : b = c) : PV.lit (.int k b) = PV.lit (.int k c) ∧ True := ⟨by rw [h], trivial⟩
theorem is_t {p : Prop} [Decidable p] : Is true (fun _ => decide p) ↔ p := ⟨fun h => h.yes, fun h => ⟨by simp [h]⟩⟩
theorem is_f {p : Prop} [Decidable p] : Is false (fun _ => decide p) ↔ ¬ p := ⟨fun h => h.no, fun h => ⟨by simp [h]⟩⟩
theorem is_b {b : Bool} {p : Prop} [Decidable p] : Is b (fun _ => decide p) ↔ (b = true ↔ p) := ⟨fun h => by rw [h.out]; simp, fun h => ⟨by cases b <;> simp_all⟩⟩
theorem is_e {α : Type} {a : α} {n : Unit → α} : Is a n ↔ a = n () := ⟨fun h => h.out, fun h => ⟨h⟩⟩
set_option maxRecDepth 100000 in
set_option maxHeartbeats 2000000 in
theorem holds_ac {G : World → Prop} (hst : Stable G) (k n : Int) (t : ByteArray) (KX IX : List (List PV)) (c : Bool) (hc : decide (k = 5 ∨ k = 6) = c) :
    ACalls G Tryz.prog 104 [jp k n t KX IX] (.lit (.bool c)) none := by
  refine acalls_fn hst mixed tau_ok Tryz.func104 (by kernel_rfl) (by kernel_rfl) (by kernel_rfl) ?_
  intro Q hQ
  cbv
  intro b hb
  cbv
  cases b
  · cbv
    intro b' hb'
    cbv
    refine litB ?_
    simp only [is_t, is_f, is_b] at *
    grind
  · cbv
    refine litB ?_
    simp only [is_t, is_f, is_b] at *
    grind
/-- A value, as it lies in memory. -/
def JRow (x : J) (k n : Int) (t : ByteArray) (KX IX : List (List PV)) : Prop := ∃ ks is, x = .mk k n t ks is ∧ ks.map encS = KX ∧ is.map encJ = IX
theorem JRow.of (x : J) : ∃ k n t KX IX, JRow x k n t KX IX ∧ encJ x = [.lit (.int .i64 k), .lit (.int .i64 n), .lit (.string t), .sl KX, .sl IX] := by
  cases x with
  | mk k n t ks is => exact ⟨k, n, t, _, _, ⟨ks, is, rfl, rfl, rfl⟩, by simp [encJ, encJs_map]⟩
theorem Is.atL {m i : Int} {X : List (List PV)} (h : Is m (fun _ => (X.length : Int))) (h0 : 0 ≤ i) (h1 : i < m) : Req (fun _ => 0 ≤ i ∧ i.toNat < X.length) := ⟨h0, by have := h.out; omega⟩
theorem Is.add1 {m k : Int} (h : Is m (fun _ => IntKind.i64.wrap (k + 1))) (h0 : 0 ≤ k) (h1 : k ≤ 4611686018427387904) : m = k + 1 := h.i64 (by omega) (by omega)
theorem Is.add {m a b : Int} (h : Is m (fun _ => IntKind.i64.wrap (a + b))) (h0 : -4611686018427387904 ≤ a + b) (h1 : a + b ≤ 4611686018427387904) : m = a + b := h.i64 (by omega) (by omega)
theorem Is.max {m a b : Int} (h : Is m (fun _ => if true = true then Max.max a b else Min.min a b)) : m = Max.max a b := by rw [h.out, if_pos rfl]
structure DepthAt (l : List J) (i : Int) (d : Int) : Prop where
  lo : 0 ≤ i
  hi : i ≤ l.length
  out : d = depths (l.take i.toNat)
theorem take_next {α : Type} (l : List α) {i : Int} (h0 : 0 ≤ i) : (i + 1).toNat = i.toNat + 1 := by omega
set_option maxRecDepth 100000 in
set_option maxHeartbeats 2000000 in
theorem depth_ac {G : World → Prop} (hst : Stable G) : ∀ (sz : Nat) (x : J) (k n : Int) (t : ByteArray) (KX IX : List (List PV)), x.size ≤ sz → x.size ≤ 1000000 → JRow x k n t KX IX → ∀ (d : Int), Is d (fun _ => (x.depth : Int)) →
    ACalls G Tryz.prog 84 [jp k n t KX IX] (.lit (.int .i64 d)) none
  | 0, x, k, n, t, KX, IX, h, _, _, d, _ => by cases x; simp [J.size] at h
  | sz + 1, x, k, n, t, KX, IX, hsz, hbig, hJ, d, hd => by
    obtain ⟨ks, is, rfl, hK, hI⟩ := hJ
    have hIl : IX.length = is.length := by rw [← hI]; simp
    have hdep := depths_le is
    have hlen := sizes_len is
    have hs1 : sizes is ≤ sz ∧ sizes is ≤ 1000000 := by simp only [J.size] at hsz hbig; omega
    have ih := fun (x : J) (hx : x ∈ is) k n t KX IX (hJ : JRow x k n t KX IX) d hd => depth_ac hst sz x k n t KX IX (by have := size_mem hx; omega) (by have := size_mem hx; omega) hJ d hd
    refine acalls_fn hst mixed tau_ok Tryz.func84 (by kernel_rfl) (by kernel_rfl) (by kernel_rfl) ?_
    intro Q hQ
    cbv
    obtain ⟨c, hc⟩ : ∃ c, decide (k = 5 ∨ k = 6) = c := ⟨_, rfl⟩
    refine Or.inl ⟨_, _, hQ _ _ _ _ (holds_ac hst k n t KX IX c hc), ?_⟩
    cbv
    intro b hb
    cbv
    cases b
    · cbv
      intro m1 h1
      cbv
      refine Or.inr ⟨[10, 11], [200001], Int × Int, fun p => [(.t 12, ⟨.pv (.lit (.int .i64 p.1)), none, none⟩), (.t 3, ⟨.pv (.lit (.int .i64 p.2)), none, none⟩)], fun p => DepthAt is p.1 p.2, fun p => IX.length - p.1.toNat, (0, 0), (show DepthAt is 0 0 from ⟨by omega, by omega, by simp [depths]⟩), ?_, ?_⟩
      · cbv
        simp
      · intro ⟨i, e⟩ hp
        have hp : DepthAt is i e := hp
        cbv
        intro c1 h2
        cbv
        cases c1
        · cbv
          intro r hr
          cbv
          refine litI ?_
          have h := h2.no
          rw [h1.len, hIl] at h
          have hk : is.take i.toNat = is := List.take_of_length_le (by omega)
          have he := hp.out
          rw [hk] at he
          have := hr.add1 (by omega) (by omega)
          have hc' := hb.out
          simp at hc'
          rw [hc'] at hc
          simp at hc
          rw [hd.len]
          simp only [J.depth, if_pos hc]
          omega
        · cbv
          refine ⟨h1.atL hp.lo h2.yes, ?_⟩
          intro r hr
          obtain ⟨x, hx, rfl⟩ := hr.row hI
          obtain ⟨k', n', t', KX', IX', hJ', he'⟩ := JRow.of x
          rw [he']
          cbv
          obtain ⟨d', hd'⟩ : ∃ d', Is d' (fun _ => (x.depth : Int)) := ⟨_, ⟨rfl⟩⟩
          refine Or.inl ⟨_, _, hQ _ _ _ _ (ih x (List.mem_of_getElem? hx) k' n' t' KX' IX' hJ' d' hd'), ?_⟩
          cbv
          intro m2 h3
          cbv
          intro m3 h4
          cbv
          have h := h2.yes
          have hm1 := h1.len
          refine ⟨(m3, m2), ?_, ?_, ?_⟩
          · have := hp.lo
            obtain rfl := h4.inc (n := IX.length) hp.lo (by omega) (by omega)
            refine ⟨by omega, by omega, ?_⟩
            rw [take_next is hp.lo, depths_take is _ x hx, h3.max, hp.out, hd'.len]
            omega
          · have := hp.lo
            obtain rfl := h4.inc (n := IX.length) hp.lo (by omega) (by omega)
            show IX.length - (i + 1).toNat < IX.length - i.toNat
            omega
          · cbv
            simp
    · cbv
      refine litI ?_
      have := hb.out
      simp at this
      rw [this] at hc
      simp at hc
      rw [hd.len]
      simp only [J.depth]
      rw [if_neg (by omega)]
      rfl
end Go.Proofs.YtbjfmkmaghapgaaGreatDoor.B
