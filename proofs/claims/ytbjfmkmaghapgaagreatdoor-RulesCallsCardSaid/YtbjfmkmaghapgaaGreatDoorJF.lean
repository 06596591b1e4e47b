/-
slices.Collect of slices.Values of texts: the iterator and the loop over it, by the library's laws of a range over a function. Condition: none.
slices.AppendSeq(nil, slices.Values(texts)) and slices.Sort of texts, as contracts on pure values. Condition: utf8's tables in memory (for the count of draws alone).
-/
import Derived.RangeFuncBox
import Derived.RangeFuncLeaves
import Derived.Shelf.Abstract
import Derived.WalkKit
import Derived.OwnWalkIn
import Derived.TacticsInMore
import Derived.LoopNIn
import Derived.LoopIn
import Derived.Maps.AppendAt
import Derived.KernelRfl
import Derived.Test.YtbjfmkmaghapgaaGreatDoorProg
import Derived.Test.YtbjfmkmaghapgaaGreatDoorBFun3
import Derived.Test.YtbjfmkmaghapgaaGreatDoorBValidCJ
set_option linter.unusedVariables false
set_option linter.unusedSimpArgs false
namespace Go.Proofs.YtbjfmkmaghapgaaGreatDoor.Seq
open Go.RowKit Go.Shelf
attribute [local go_sem] Oper.semAt_some

/-- WHAT HAS COME WHEN k ROUNDS ARE OVER: f 0, .., f (k - 1). -/
def upto {α : Type} (f : Nat → α) (k : Nat) : List α := (List.range k).map f
theorem upto_succ {α : Type} (f : Nat → α) (k : Nat) : upto f (k + 1) = upto f k ++ [f k] := by simp [upto, List.range_succ]
theorem upto_length {α : Type} (f : Nat → α) (k : Nat) : (upto f k).length = k := by simp [upto]
theorem upto_all (zs : List ByteArray) : upto (fun j => zs[j]?.getD ⟨#[]⟩) zs.length = zs := by
  apply List.ext_getElem
  · simp [upto]
  · intro i h1 h2
    simp [upto, h2]

set_option maxRecDepth 100000 in
set_option maxHeartbeats 2000000 in
/-- **slices.Values's closure: 'for _, v := range s { if !yield(v) { return } }': FOR EVERY LOOP BODY THAT KEEPS WHAT LAY BELOW n₀.** -/
theorem values1_in (F : Fence) (n : Nat) (hv : F.fn 108) (hro : F.round = none) (hn : 1 ≤ n) (l Bs n₀ b off len cap : Nat) (zs : List ByteArray) (hreach : len * 16 ≤ 140737488351232) (hb : 0 < len → b < n₀) (J Jx : List ByteArray → World → Prop)
    (hY : ∀ pre x W, J pre W → pre.length < len → YieldAt F (n - 1) Tryz.prog l #[.string x] W fun e W' =>
      (e = .returned (.bool true) ∧ J (pre ++ [x]) W' ∧ Below n₀ W W') ∨ (e = .returned (.bool false) ∧ Jx (pre ++ [x]) W'))
    (W : World) (hBs : W.cell? ⟨Bs, 0, none⟩ = some (.slice (some ⟨b, off, none⟩) len cap)) (hc : ∀ j, j < len → W.cell? ⟨b, off + j, none⟩ = some (.string (zs[j]?.getD ⟨#[]⟩))) (h0 : J [] W) :
    CallsIn F n Tryz.prog 108 #[.func (.yield l) #[] #[], .pointer (some ⟨Bs, 0, none⟩)] W fun e W' => (∃ v, e = .returned v) ∧
      ((∃ ys, ys = upto (fun j => zs[j]?.getD ⟨#[]⟩) len ∧ J ys W') ∨ (∃ pre, (∃ k, k ≤ len ∧ pre = upto (fun j => zs[j]?.getD ⟨#[]⟩) k) ∧ Jx pre W')) := by
  refine callsIn_of_wp Tryz.func108 rfl hv ?_ hro
  simp only [Tryz.ntmps108, List.size_toArray, List.length_cons, List.length_nil, Nat.reduceAdd, Nat.reduceSub, Array.replicate_succ, Array.replicate_zero, List.push_toArray, List.append_toArray, List.nil_append, List.cons_append]
  gi_wp2
  gi_loopw [7] (fun i wr => ∃ k : Nat, k ≤ len ∧ i = .int .i64 k ∧ J (upto (fun j => zs[j]?.getD ⟨#[]⟩) k) wr ∧ Below n₀ W wr)
    (fun i _ => len - (intOf i).toNat)
  case atStart => exact ⟨0, Nat.zero_le _, rfl, h0, Below.refl _ _⟩
  case round =>
    obtain ⟨k, hk, rfl, hJs, hnx⟩ := hrel
    have hcx : k < len → wr.cell? ⟨b, off + k, none⟩ = some (.string (zs[k]?.getD ⟨#[]⟩)) := fun h => (hnx.cell (p := ⟨b, off + k, none⟩) (hb (by omega))).trans (hc k h)
    by_cases hlt : k < len
    · obtain ⟨fn, tmps, assign, body, hy, hR⟩ := hY _ (zs[k]?.getD ⟨#[]⟩) wr hJs (by rw [upto_length]; exact hlt)
      have hcx' := hcx hlt
      gi_wp2
      refine hR.mono ?_
      rintro e W3 (⟨rfl, hJ3, hk3⟩ | ⟨rfl, hJx3⟩)
      · -- THE ROUND GOES ON
        gi_wp2
        go_roundw
        case rel => exact ⟨k + 1, by omega, by simp, by rw [upto_succ]; exact hJ3, hnx.trans hk3⟩
        case measure => simp [intOf]; omega
      · gi_wp2
        refine bodyPost_ret (results_none rfl _ _ _) rfl ?_
        exact ⟨⟨_, rfl⟩, .inr ⟨_, ⟨k + 1, by omega, (upto_succ _ _).symm⟩, hJx3⟩⟩
    · obtain rfl : k = len := by omega
      gi_wp2
      go_end0
      exact ⟨⟨_, rfl⟩, .inl ⟨_, rfl, hJs⟩⟩

theorem upto_take (zs : List ByteArray) {k : Nat} (hk : k ≤ zs.length) : upto (fun j => zs[j]?.getD ⟨#[]⟩) k = zs.take k := by
  apply List.ext_getElem
  · simp [upto, hk]
  · intro i h1 h2
    have : i < zs.length := by simp [upto] at h1; omega
    simp [upto, this]

/-- THE SLICE VALUE sv HOLDS THE ints zs, in a block below n₀; or it is nil and there are none. -/
def Strs (n₀ : Nat) (W : World) (sv : Value) (zs : List ByteArray) : Prop :=
  ((∃ A, sv = .slice A 0 0) ∧ zs = []) ∨ ∃ b off cap, sv = .slice (some ⟨b, off, none⟩) zs.length cap ∧ (0 < zs.length → b < n₀) ∧ ∀ j, j < zs.length → W.cell? ⟨b, off + j, none⟩ = some (.string (zs[j]?.getD ⟨#[]⟩))
theorem Strs.below {n₀ : Nat} {A B : World} (h : Below n₀ A B) {sv : Value} {zs : List ByteArray} : Strs n₀ A sv zs → Strs n₀ B sv zs
  | .inl e => .inl e
  | .inr ⟨b, off, cap, e, hb, hc⟩ => .inr ⟨b, off, cap, e, hb, fun j hj => (h.cell (p := ⟨b, off + j, none⟩) (hb (by omega))).trans (hc j hj)⟩

set_option maxRecDepth 100000 in
set_option maxHeartbeats 1000000 in
/-- .. at the nil slice: no round. -/
theorem values1_nil_in (F : Fence) (n : Nat) (hv : F.fn 108) (hro : F.round = none) (l Bs : Nat) (J : List ByteArray → World → Prop) (W : World) (A : Option Addr) (hBs : W.cell? ⟨Bs, 0, none⟩ = some (.slice A 0 0)) (h0 : J [] W) :
    CallsIn F n Tryz.prog 108 #[.func (.yield l) #[] #[], .pointer (some ⟨Bs, 0, none⟩)] W fun e W' => (∃ v, e = .returned v) ∧ J [] W' := by
  refine callsIn_of_wp Tryz.func108 rfl hv ?_ hro
  simp only [Tryz.ntmps108, List.size_toArray, List.length_cons, List.length_nil, Nat.reduceAdd, Nat.reduceSub, Array.replicate_succ, Array.replicate_zero, List.push_toArray, List.append_toArray, List.nil_append, List.cons_append]
  gi_wp2
  gi_loopw [7] (fun i wr => i = .int .i64 0 ∧ J [] wr) (fun _ _ => 0)
  case atStart => exact ⟨rfl, h0⟩
  case round =>
    obtain ⟨rfl, hJs⟩ := hrel
    gi_wp2
    go_end0
    exact ⟨⟨_, rfl⟩, hJs⟩

/-- **slices.Values(s) HANDS BACK A VALUE THAT 'SeqStopsK', AT 'Kp := Below n₀'**: all of zs, in order; or a prefix. EVERY SLICE OF ints WITHIN THE REACH, THE nil ONE TOO. -/
theorem values_stops (F : Fence) (n : Nat) (hv : F.fn 108) (hro : F.round = none) (hn : 1 ≤ n) (Bs n₀ : Nat) (sv : Value) (zs : List ByteArray) (hreach : zs.length * 16 ≤ 140737488351232) (w : World) (hBs : Bs < w.heap.size) (hn₀ : n₀ ≤ w.heap.size)
    (hc : w.cell? ⟨Bs, 0, none⟩ = some sv) (hI : Strs n₀ w sv zs) :
    SeqStopsK F n Tryz.prog 108 #[.pointer (some ⟨Bs, 0, none⟩)] (fun x : ByteArray => #[Value.string x]) (Below n₀) (fun ys => ys = zs) (fun pre => pre <+: zs) zs.length w := fun l J Jx W hW _ _ hY h0 => by
  have hc' := (hW.cell (p := ⟨Bs, 0, none⟩) hBs).trans hc
  rcases hI.below (hW.mono hn₀) with ⟨⟨A, rfl⟩, rfl⟩ | ⟨b, off, cap, rfl, hb, hcs⟩
  · exact (values1_nil_in F n hv hro l Bs J W A hc' h0).mono fun e W' ⟨he, hj⟩ => ⟨he, .inl ⟨_, rfl, hj⟩⟩
  · refine (values1_in F n hv hro hn l Bs n₀ b off zs.length cap zs hreach hb J Jx hY W hc' hcs h0).mono ?_
    rintro e W' ⟨he, ⟨ys, rfl, hj⟩ | ⟨pre, ⟨k, hk, rfl⟩, hj⟩⟩
    · exact ⟨he, .inl ⟨_, upto_all zs, hj⟩⟩
    · exact ⟨he, .inr ⟨_, by rw [upto_take zs hk]; exact List.take_prefix _ _, hj⟩⟩


theorem infoS : (Tryz.prog.info? 9).map (fun i => (i.zero, i.size, i.bytes)) = some (some (.string ⟨#[]⟩), 1, 16) := by kernel_rfl
set_option maxRecDepth 100000 in
set_option maxHeartbeats 2000000 in
theorem appendSeq_in (F : Fence) (n : Nat) (ha : F.fn 113) (hv : F.fn 108) (hro : F.round = none) (hn : 2 ≤ n) (Bs : Nat) (sv : Value) (zs : List ByteArray) (hbytes : zs.length * 16 ≤ 140737488351232) (w : World) (hBs : Bs < w.heap.size) (hc : w.cell? ⟨Bs, 0, none⟩ = some sv) (hI : Strs w.heap.size w sv zs) :
    CallsIn F n Tryz.prog 113 #[.slice none 0 0, .func (.func 108) #[] #[.pointer (some ⟨Bs, 0, none⟩)]] w fun e W' => ∃ v, e = .returned v ∧ W'.ownsRow w.heap.size 9 1 v zs.length (zs.map Value.string) ∧ (v = .slice none 0 0 ↔ zs = []) ∧ Below w.heap.size w W' := by
  have h1 : 1 ≤ n := by omega
  obtain ⟨i0, hi, hz0, hz1, hz2⟩ := info_parts infoS
  have hlen : zs.length ≤ maxLen := by unfold maxLen; omega
  refine callsIn_of_wp_marks Tryz.func113 rfl ha ?_ hro
  simp only [Tryz.ntmps113, List.size_toArray, List.length_cons, List.length_nil, Nat.reduceAdd, Nat.reduceSub, Array.replicate_succ, Array.replicate_zero, List.push_toArray, List.append_toArray, List.nil_append, List.cons_append]
  gi_wp2
  have bO := Boxed.new w 39 (.slice none 0 0)
  have hB0 : Below w.heap.size w (w.alloc (.cells #[.slice none 0 0] 39)) := (Below.refl _ w).alloc (Nat.le_refl _) _
  have hc0 : (w.alloc (.cells #[.slice none 0 0] 39)).cell? ⟨Bs, 0, none⟩ = some sv := (hB0.cell (p := ⟨Bs, 0, none⟩) hBs).trans hc
  refine wpIn_rangeFunc_ownG hro h1 (gf := 108) (lb := #[.pointer (some ⟨Bs, 0, none⟩)]) rfl hv (enters_of Tryz.func108 (by kernel_rfl) rfl)
    (values_stops F (n - 1) hv hro (by omega) Bs w.heap.size sv zs hbytes _ (by simp; omega) (by simp) hc0 (hI.below hB0)) belowK_t (belowK_b (by simp)) (Below.refl _ _) (fun _ => rfl)
    (fun pre W => (∃ v, Boxed W w.heap.size 39 v ∧ W.ownsRow w.heap.size 9 1 v pre.length (pre.map Value.string) ∧ (v = .slice none 0 0 ↔ pre = [])) ∧ Below w.heap.size w W)
    (fun _ _ _ => False)
    (OwnFrom.and (Own.from (holdsRow_own w.heap.size w.heap.size 39 9 1 (fun pre => pre.length) (fun pre => pre.map Value.string) (fun pre v => v = .slice none 0 0 ↔ pre = [])) _) (ownFrom_below (Nat.le_refl _) (by simp)))
    (fun _ _ _ _ _ hs _ _ => hs)
    ⟨⟨_, bO, World.ownsRow_nil _ _ _ _, by simp⟩, hB0⟩
    (fun x => { tmps := #[.slice none 0 0, .func (.func 108) #[] #[.pointer (some ⟨Bs, 0, none⟩)], .pointer (some ⟨w.heap.size, 0, none⟩), undef, .slice none 0 0, .string x, .func (.func 108) #[] #[.pointer (some ⟨Bs, 0, none⟩)], .string x, undef, undef, undef, undef, undef], defers := [] }) ?assign ?body ?done ?stop
  case assign =>
    intro l x W K hK
    gi_wp2
    exact hK
  case body =>
    rintro l pre x W ⟨⟨v, hvb, hrow, hnil⟩, hB⟩ hlt
    have hc := hvb.cell
    gi_wp2_with (gi_at_builtin; refine wpListIn_append_own _ rfl _ _ 39 rfl w.heap.size 9 i0 (.string ⟨#[]⟩) 1 16 Tryz.underlying39 hi hz0 hz1 hz2 rfl (by decide) _ _ _ rfl (hrow.alloc _) ⟨W.heap.size, 0, none⟩ 1 1 [.string x] rfl rfl (cell_one_new _ _ _) (by simp [Value.oneCell']) (by omega) (by omega) (by have := hB.size; simp; omega) ?_; intro v' w1 hown' hgrow _; obtain ⟨g', cap', rfl⟩ := ownsRow_succ hown'; obtain ⟨hv1, hv2, hr2, hk2, hb2⟩ := hvb.appended (by decide) hrow hB.size (Nat.le_refl _) hown' hgrow; have hc1 := hv1.cell; have hf1 := hv1.frozen)
    exact ⟨hk2.from _, hb2, ⟨_, hv2, by simpa using hr2, by simp⟩, hB.trans hb2⟩
  case done =>
    rintro D ys W hD rfl ⟨⟨v, hvb, hrow, hnil⟩, hB⟩ hK
    have hc := hvb.cell
    gi_wp2
    refine ⟨by simp, .inl ⟨_, _, rfl, run_takeDeferred hK, ?_⟩⟩
    exact ⟨_, results_tmp rfl _ _ _, v, rfl, ownsRow_putObj hrow _ hK rfl, hnil, hB.trans (belowK_b (w := w) (Nat.le_refl _) W D _ _ (by simp at hD; omega) hK rfl rfl)⟩
  case stop =>
    rintro D c pre W _ _ h _
    exact h.elim
end Go.Proofs.YtbjfmkmaghapgaaGreatDoor.Seq

set_option linter.unusedVariables false
set_option linter.unusedSimpArgs false
namespace Go.Proofs.YtbjfmkmaghapgaaGreatDoor.B
open Go.RowKit
theorem strs_of_rep {S : Nat → Nat → Prop} {w : World} {v : Value} {ks : List ByteArray} (h : RepP S w v (.sl (ks.map encS))) : Seq.Strs w.heap.size w v ks := by
  rcases rep_sl h with ⟨e, h0⟩ | ⟨b, off, k, cap, e, h1, h2, h3⟩
  · exact .inl ⟨e, by simpa using h0⟩
  · rw [List.length_map] at e
    by_cases hz : ks = []
    · subst hz
      exact .inr ⟨b, off, cap, e, fun h => absurd h (by simp), fun j hj => absurd hj (by simp)⟩
    · have hpos : 0 < ks.length := List.length_pos_iff.2 hz
      have hk : k = 1 := (h2 (encS (ks[0]'hpos)) (List.mem_map_of_mem (List.getElem_mem hpos))).symm.trans rfl
      subst hk
      have hc : ∀ j, j < ks.length → w.cell? ⟨b, off + j, none⟩ = some (.string (ks[j]?.getD ⟨#[]⟩)) := fun j hj => by
        have hr := h3 j (encS ks[j]) (by rw [List.getElem?_map, List.getElem?_eq_getElem hj]; rfl)
        obtain ⟨_, c, c1, c2, _⟩ := hr 0 _ rfl
        rw [(rep_lit c2).1] at c1
        rw [List.getElem?_eq_getElem hj]
        simpa using c1
      exact .inr ⟨b, off, cap, e, fun _ => cell_lt (hc 0 hpos), hc⟩
theorem lenS' (l : List ByteArray) : ∀ r, r ∈ l.map encS → r.length = 1 := lenS l
theorem appendSeq_hc {G : World → Prop} (hD : ¬ ∀ w, G w) (ks : List ByteArray) (hl : ks.length ≤ 1000000) (KX : List (List PV)) (hK : ks.map encS = KX) (n : Nat) (hn : Is n (fun _ => KX.length)) (hpos : ks ≠ []) :
    HCalls G Tryz.prog 113 [.pv .nil, .clo 108 [.ptr 50001 0]] [(50001, [.pv (.sl KX)])] (.slp 20000 1 0 n) none [(50001, [.pv (.sl KX)]), (20000, [.rows 1 KX])] := by
  refine ⟨⟨_, Tryz.func113, by kernel_rfl, by kernel_rfl⟩, fun w S β vs hG hSa hpre hrep => ?_⟩
  obtain ⟨hsz, hrep⟩ := hrep
  obtain ⟨v0, v1, rfl⟩ : ∃ v0 v1, vs = #[v0, v1] := by
    obtain ⟨vl⟩ := vs
    match vl, hsz with
    | [a, b], _ => exact ⟨a, b, rfl⟩
  have hv0 : RepP S w v0 .nil := hrep 0 v0 _ rfl rfl
  obtain rfl := rep_nil hv0
  obtain ⟨caps, rfl, hcaps⟩ : ∃ caps : List Value, v1 = .func (.func 108) #[] caps.toArray ∧ RepC β S w caps [.ptr 50001 0] := hrep 1 v1 _ rfl rfl
  obtain ⟨cp, rfl⟩ : ∃ cp, caps = [cp] := by
    match caps, hcaps with
    | [a], _ => exact ⟨a, rfl⟩
  obtain rfl : cp = .pointer (some ⟨β 50001, 0, none⟩) := hcaps.1
  obtain ⟨_, c, hc, hcr, hcf⟩ := hpre.holds 50001 _ (List.mem_cons_self ..) 0 _ rfl (by simp)
  have hcr' : RepP S w c (.sl (ks.map encS)) := by rw [hK]; exact hcr
  obtain ⟨hlt, hnS⟩ := hpre.lt 50001 (by simp [idsOf])
  have hnl : n = ks.length := by rw [hn.out, ← hK]; simp
  have hcall := (callsIn_wide).1 (Seq.appendSeq_in Fence.wide 2 trivial trivial rfl (by omega) (β 50001) c ks (by omega) w hlt hc (strs_of_rep hcr'))
  refine Calls.mono (f := 113) hcall ?_
  rintro e w' ⟨v, rfl, how, hnil, hb⟩
  rcases how.2 with ⟨q, _⟩ | ⟨g, cap, cur, rfl, hg1, hg2, hcapn, _, hcs, htake⟩
  · exact absurd (hnil.1 q) hpos
  have hgl : g < w'.heap.size := (Array.getElem?_eq_some_iff.1 hg2).1
  have hS' : ∀ b o, S b o → w'.cell? ⟨b, o, none⟩ = w.cell? ⟨b, o, none⟩ := fun b o hs => hb.cell (p := ⟨b, o, none⟩) (hSa b o hs)
  let β' : Nat → Nat := fun i => if i = 20000 then g else β i
  have hβ1 : β' 20000 = g := if_pos rfl
  have hβ2 : β' 50001 = β 50001 := if_neg (by decide)
  refine ⟨_, S, β', rfl, Kept.of_below hb, fun _ _ h => h, fun _ _ h => .inl h, fun b o hs => Nat.lt_of_lt_of_le (hSa b o hs) hb.size, fun i hi => ?_, fun i hi hni => ?_, ⟨fun i hi => ?_, fun i j hi hj e => ?_, fun i xs hm o x hx hne => ?_⟩, ?_, trivial, fun b hne => hne.elim, fun d => absurd d hD⟩
  · simp [idsOf] at hi
    rw [hi, hβ2]
  · simp [idsOf] at hi hni
    rcases hi with rfl | rfl
    · exact absurd rfl hni
    · rw [hβ1]; exact hg1
  · simp [idsOf] at hi
    rcases hi with rfl | rfl
    · rw [hβ2]; exact ⟨Nat.lt_of_lt_of_le hlt hb.size, hnS⟩
    · rw [hβ1]; exact ⟨hgl, fun o hs => by have := hSa _ _ hs; omega⟩
  · simp [idsOf] at hi hj
    rcases hi with rfl | rfl <;> rcases hj with rfl | rfl
    · rfl
    · rw [hβ1, hβ2] at e; omega
    · rw [hβ1, hβ2] at e; omega
    · rfl
  · simp at hm
    rcases hm with ⟨rfl, rfl⟩ | ⟨rfl, rfl⟩
    · cases o with
      | succ o => simp at hx
      | zero =>
        simp at hx
        subst hx
        refine ⟨rfl, c, ?_, hcr.mono (fun _ _ h => h) hS', ?_⟩
        · rw [hβ2]; exact (hb.cell (p := ⟨β 50001, 0, none⟩) hlt).trans hc
        · rw [hβ2]; exact (hb.frozen (p := ⟨β 50001, 0, none⟩) hlt).trans hcf
    · cases o with
      | succ o => simp at hx
      | zero =>
        simp at hx
        subst hx
        refine ⟨rfl, rfl, ⟨hK ▸ lenS ks, fun i j r x hr hxj => ?_⟩, fun q => ?_⟩
        · rw [← hK, List.getElem?_map] at hr
          cases hq : ks[i]? with
          | none => rw [hq] at hr; cases hr
          | some y =>
            rw [hq] at hr
            simp only [Option.map_some, Option.some.injEq] at hr
            subst hr
            obtain ⟨hi, hy⟩ := List.getElem?_eq_some_iff.1 hq
            have hj : j = 0 := by
              have := (List.getElem?_eq_some_iff.1 hxj).1
              simp [encS] at this
              omega
            subst hj
            cases hxj
            refine ⟨.string y, ?_, .lit _ rfl, rfl⟩
            have hz : (cur.toList.take (ks.length * 1))[i]? = some (.string y) := by rw [htake, List.getElem?_map, hq]; rfl
            rw [List.getElem?_take, if_pos (by omega)] at hz
            rw [hβ1]
            simp [World.cell?, hg2]
            simpa using hz
        · rw [hβ1]; simp [World.frozen?, hg2]
  · refine ⟨cap, 0, by omega, ?_, .inr (by simp)⟩
    rw [hβ1, hnl]
theorem appendSeq0_hc {G : World → Prop} (hD : ¬ ∀ w, G w) :
    HCalls G Tryz.prog 113 [.pv .nil, .clo 108 [.ptr 50001 0]] [(50001, [.pv (.sl [])])] (.pv (.sl [])) none [(50001, [.pv (.sl [])])] := by
  refine ⟨⟨_, Tryz.func113, by kernel_rfl, by kernel_rfl⟩, fun w S β vs hG hSa hpre hrep => ?_⟩
  obtain ⟨hsz, hrep⟩ := hrep
  obtain ⟨v0, v1, rfl⟩ : ∃ v0 v1, vs = #[v0, v1] := by
    obtain ⟨vl⟩ := vs
    match vl, hsz with
    | [a, b], _ => exact ⟨a, b, rfl⟩
  have hv0 : RepP S w v0 .nil := hrep 0 v0 _ rfl rfl
  obtain rfl := rep_nil hv0
  obtain ⟨caps, rfl, hcaps⟩ : ∃ caps : List Value, v1 = .func (.func 108) #[] caps.toArray ∧ RepC β S w caps [.ptr 50001 0] := hrep 1 v1 _ rfl rfl
  obtain ⟨cp, rfl⟩ : ∃ cp, caps = [cp] := by
    match caps, hcaps with
    | [a], _ => exact ⟨a, rfl⟩
  obtain rfl : cp = .pointer (some ⟨β 50001, 0, none⟩) := hcaps.1
  obtain ⟨_, c, hc, hcr, hcf⟩ := hpre.holds 50001 _ (List.mem_cons_self ..) 0 _ rfl (by simp)
  have hcr' : RepP S w c (.sl (([] : List ByteArray).map encS)) := hcr
  obtain ⟨hlt, hnS⟩ := hpre.lt 50001 (by simp [idsOf])
  have hcall := (callsIn_wide).1 (Seq.appendSeq_in Fence.wide 2 trivial trivial rfl (by omega) (β 50001) c [] (by simp) w hlt hc (strs_of_rep hcr'))
  refine Calls.mono (f := 113) hcall ?_
  rintro e w' ⟨v, rfl, how, hnil, hb⟩
  obtain rfl := hnil.2 rfl
  have hS' : ∀ b o, S b o → w'.cell? ⟨b, o, none⟩ = w.cell? ⟨b, o, none⟩ := fun b o hs => hb.cell (p := ⟨b, o, none⟩) (hSa b o hs)
  refine ⟨_, S, β, rfl, Kept.of_below hb, fun _ _ h => h, fun _ _ h => .inl h, fun b o hs => Nat.lt_of_lt_of_le (hSa b o hs) hb.size, fun _ _ => rfl, fun i hi hni => absurd hi hni, ⟨fun i hi => ?_, fun i j hi hj e => ?_, fun i xs hm o x hx hne => ?_⟩, .nil' _, trivial, fun b hne => hne.elim, fun d => absurd d hD⟩
  · simp [idsOf] at hi
    rw [hi]; exact ⟨Nat.lt_of_lt_of_le hlt hb.size, hnS⟩
  · simp [idsOf] at hi hj
    rw [hi, hj]
  · simp at hm
    obtain ⟨rfl, rfl⟩ := hm
    cases o with
    | succ o => simp at hx
    | zero =>
      simp at hx
      subst hx
      exact ⟨rfl, c, (hb.cell (p := ⟨β 50001, 0, none⟩) hlt).trans hc, hcr.mono (fun _ _ h => h) hS', (hb.frozen (p := ⟨β 50001, 0, none⟩) hlt).trans hcf⟩
end Go.Proofs.YtbjfmkmaghapgaaGreatDoor.B
