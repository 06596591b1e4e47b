/-
The logic of pure values, continued: what each operation does, as a tree of reads, demands and writes. Condition: none.
-/
import Derived.Test.YtbjfmkmaghapgaaGreatDoorBMap
set_option linter.unusedVariables false
set_option linter.unusedSimpArgs false
namespace Go.Proofs.YtbjfmkmaghapgaaGreatDoor.B
open Go.RowKit

/-- What is known of a type. -/
structure TI where
  desc : TypeDesc
  size : Nat
  bytes : Nat
  zero : Value
  eqOK : Unit → Bool
abbrev Tau := TypeId → Option TI

/-- A fact that is kept shut while the conditions are computed. -/
structure Is {α : Type} (m : α) (n : Unit → α) : Prop where
  out : m = n ()
structure Req (p : Unit → Prop) : Prop where
  out : p ()
/-- An entry is sought by its key. -/
def LookR (es : List ME) (key : PV) : Option ME → Prop
  | none => ∀ e, e ∈ es → e.key ≠ key
  | some e => e ∈ es ∧ e.key = key ∧ ∀ e', e' ∈ es → e'.key = key → e' = e
/-- What is known of a call that memory is handed to: the function's own view of it; and which of its numbers is which of the caller's. -/
structure HD where
  args : List FV
  hs : HS
  res : FV
  own : Own
  hs' : HS
  ρ : List (Nat × Nat)
/-- An operation: it reads keys, asks for facts, and writes keys. -/
inductive T where
  | ret (ws : List (Key × C))
  | fail
  | get (k : Key) (f : C → T)
  | chk (k : Key) (t : T)
  | row (xs : List (List PV)) (i : Int) (f : List PV → T)
  | byte (s : ByteArray) (i : Int) (f : UInt8 → T)
  | ival (n : Unit → Int) (f : Int → T)
  | bval (b : Unit → Bool) (f : Bool → T)
  | sval (s : Unit → ByteArray) (f : ByteArray → T)
  | lval (xs : Unit → List (List PV)) (f : List (List PV) → T)
  | req (p : Unit → Prop) (t : T)
  | ite (b : Bool) (x y : T)
  | call (fn : FuncId) (args : List PV) (f : PV → Own → T)
  | know (b o : Nat) (f : Value → T)
  | look (es : List ME) (key : PV) (f : Option ME → T)
  | one (es : List ME) (b : Nat) (f : ME → T)
  | hcall (fn : FuncId) (f : HD → T)
  | ocall (fn : FuncId) (args : List PV) (f : List Own → PV → Own → T)
  | alt (x y : T)
  | mval (n : Unit → List ME) (f : List ME → T)
  | nval (n : Unit → Nat) (f : Nat → T)

def vcT (G : World → Prop) (P : Program) : T → (Key → C) → (Key → Bool) → (List Key → List (Key × C) → Prop) → Prop
  | .ret ws, g, wr, K => K [] ws
  | .fail, g, wr, K => False
  | .get k f, g, wr, K => vcT G P (f (g k)) g wr (fun rs ws => K (k :: rs) ws)
  | .chk k t, g, wr, K => wr k = false ∧ vcT G P t g wr (fun rs ws => K (k :: rs) ws)
  | .row xs i f, g, wr, K => Req (fun _ => 0 ≤ i ∧ i.toNat < xs.length) ∧ ∀ r, Is (some r) (fun _ => xs[i.toNat]?) → vcT G P (f r) g wr K
  | .byte s i f, g, wr, K => Req (fun _ => 0 ≤ i ∧ i.toNat < s.size) ∧ ∀ b, Is (some b) (fun _ => s[i.toNat]?) → vcT G P (f b) g wr K
  | .ival n f, g, wr, K => ∀ m, Is m n → vcT G P (f m) g wr K
  | .bval n f, g, wr, K => ∀ m, Is m n → vcT G P (f m) g wr K
  | .sval n f, g, wr, K => ∀ m, Is m n → vcT G P (f m) g wr K
  | .lval n f, g, wr, K => ∀ m, Is m n → vcT G P (f m) g wr K
  | .req p t, g, wr, K => Req p ∧ vcT G P t g wr K
  | .ite b x y, g, wr, K => if b = true then vcT G P x g wr K else vcT G P y g wr K
  | .call fn args f, g, wr, K => ∃ res ow, ACalls G P fn args res ow ∧ vcT G P (f res ow) g wr K
  | .know b o f, g, wr, K => ∃ v, (∀ w : World, G w → w.cell? ⟨b, o, none⟩ = some v) ∧ v.oneCell' = true ∧ vcT G P (f v) g wr K
  | .look es key f, g, wr, K => ∃ r, Req (fun _ => LookR es key r) ∧ vcT G P (f r) g wr K
  | .one es b f, g, wr, K => ∃ e, Req (fun _ => e ∈ es ∧ e.born = b) ∧ vcT G P (f e) g wr K
  | .hcall fn f, g, wr, K => ∃ D : HD, HCalls G P fn D.args D.hs D.res D.own D.hs' ∧ vcT G P (f D) g wr K
  | .ocall fn args f, g, wr, K => ∃ oin res ow, OCalls G P fn args oin res ow ∧ vcT G P (f oin res ow) g wr K
  | .alt x y, g, wr, K => vcT G P x g wr K ∨ vcT G P y g wr K
  | .mval n f, g, wr, K => ∀ m, Is m n → vcT G P (f m) g wr K
  | .nval n f, g, wr, K => ∀ m, Is m n → vcT G P (f m) g wr K

theorem vcT_ev {G : World → Prop} {P : Program} {g : Key → C} {wr : Key → Bool} : ∀ (t : T) {K : List Key → List (Key × C) → Prop}, vcT G P t g wr K →
    ∃ rs ws, vcT G P t g wr (fun r v => r = rs ∧ v = ws) ∧ K rs ws
  | .ret ws, K, h => ⟨[], ws, ⟨rfl, rfl⟩, h⟩
  | .fail, K, h => h.elim
  | .get k f, K, h => by
    obtain ⟨rs, ws, h1, h2⟩ := vcT_ev (f (g k)) (show vcT G P (f (g k)) g wr (fun rs ws => K (k :: rs) ws) from h)
    refine ⟨k :: rs, ws, ?_, h2⟩
    simpa [vcT] using h1
  | .chk k t, K, h => by
    obtain ⟨rs, ws, h1, h2⟩ := vcT_ev t (show vcT G P t g wr (fun rs ws => K (k :: rs) ws) from h.2)
    refine ⟨k :: rs, ws, ⟨h.1, ?_⟩, h2⟩
    simpa using h1
  | .row xs i f, K, h => by
    have hr := List.getElem?_eq_getElem h.1.out.2
    obtain ⟨rs, ws, h3, h4⟩ := vcT_ev (f _) (h.2 _ ⟨hr.symm⟩)
    exact ⟨rs, ws, ⟨h.1, fun r e => by have e := e.out; rw [hr] at e; cases e; exact h3⟩, h4⟩
  | .byte s i f, K, h => by
    have hr : s[i.toNat]? = some (s[i.toNat]'h.1.out.2) := getElem?_pos s i.toNat h.1.out.2
    obtain ⟨rs, ws, h3, h4⟩ := vcT_ev (f _) (h.2 _ ⟨hr.symm⟩)
    exact ⟨rs, ws, ⟨h.1, fun r e => by have e := e.out; rw [hr] at e; cases e; exact h3⟩, h4⟩
  | .ival n f, K, h => by
    obtain ⟨rs, ws, h3, h4⟩ := vcT_ev (f _) (h _ ⟨rfl⟩)
    exact ⟨rs, ws, fun m e => by have e := e.out; subst e; exact h3, h4⟩
  | .bval n f, K, h => by
    obtain ⟨rs, ws, h3, h4⟩ := vcT_ev (f _) (h _ ⟨rfl⟩)
    exact ⟨rs, ws, fun m e => by have e := e.out; subst e; exact h3, h4⟩
  | .sval n f, K, h => by
    obtain ⟨rs, ws, h3, h4⟩ := vcT_ev (f _) (h _ ⟨rfl⟩)
    exact ⟨rs, ws, fun m e => by have e := e.out; subst e; exact h3, h4⟩
  | .lval n f, K, h => by
    obtain ⟨rs, ws, h3, h4⟩ := vcT_ev (f _) (h _ ⟨rfl⟩)
    exact ⟨rs, ws, fun m e => by have e := e.out; subst e; exact h3, h4⟩
  | .req p t, K, h => by
    obtain ⟨rs, ws, h3, h4⟩ := vcT_ev t h.2
    exact ⟨rs, ws, ⟨h.1, h3⟩, h4⟩
  | .ite b x y, K, h => by
    by_cases hb : b = true
    · rw [vcT, if_pos hb] at h
      obtain ⟨rs, ws, h3, h4⟩ := vcT_ev x h
      exact ⟨rs, ws, by rw [vcT, if_pos hb]; exact h3, h4⟩
    · rw [vcT, if_neg hb] at h
      obtain ⟨rs, ws, h3, h4⟩ := vcT_ev y h
      exact ⟨rs, ws, by rw [vcT, if_neg hb]; exact h3, h4⟩
  | .call fn args f, K, h => by
    obtain ⟨res, ow, h0, h2⟩ := h
    obtain ⟨rs, ws, h3, h4⟩ := vcT_ev (f res ow) h2
    exact ⟨rs, ws, ⟨res, ow, h0, h3⟩, h4⟩
  | .know b o f, K, h => by
    obtain ⟨v, h0, h1, h2⟩ := h
    obtain ⟨rs, ws, h3, h4⟩ := vcT_ev (f v) h2
    exact ⟨rs, ws, ⟨v, h0, h1, h3⟩, h4⟩
  | .look es key f, K, h => by
    obtain ⟨r, h0, h2⟩ := h
    obtain ⟨rs, ws, h3, h4⟩ := vcT_ev (f r) h2
    exact ⟨rs, ws, ⟨r, h0, h3⟩, h4⟩
  | .one es b f, K, h => by
    obtain ⟨r, h0, h2⟩ := h
    obtain ⟨rs, ws, h3, h4⟩ := vcT_ev (f r) h2
    exact ⟨rs, ws, ⟨r, h0, h3⟩, h4⟩
  | .hcall fn f, K, h => by
    obtain ⟨D, h0, h2⟩ := h
    obtain ⟨rs, ws, h3, h4⟩ := vcT_ev (f D) h2
    exact ⟨rs, ws, ⟨D, h0, h3⟩, h4⟩
  | .ocall fn args f, K, h => by
    obtain ⟨oin, res, ow, h0, h2⟩ := h
    obtain ⟨rs, ws, h3, h4⟩ := vcT_ev (f oin res ow) h2
    exact ⟨rs, ws, ⟨oin, res, ow, h0, h3⟩, h4⟩
  | .alt x y, K, h => by
    rcases h with h | h
    · obtain ⟨rs, ws, h3, h4⟩ := vcT_ev x h
      exact ⟨rs, ws, .inl h3, h4⟩
    · obtain ⟨rs, ws, h3, h4⟩ := vcT_ev y h
      exact ⟨rs, ws, .inr h3, h4⟩
  | .mval n f, K, h => by
    obtain ⟨rs, ws, h3, h4⟩ := vcT_ev (f _) (h _ ⟨rfl⟩)
    exact ⟨rs, ws, fun m e => by have e := e.out; subst e; exact h3, h4⟩
  | .nval n f, K, h => by
    obtain ⟨rs, ws, h3, h4⟩ := vcT_ev (f _) (h _ ⟨rfl⟩)
    exact ⟨rs, ws, fun m e => by have e := e.out; subst e; exact h3, h4⟩
theorem vcT_local {G : World → Prop} {P : Program} {g g' : Key → C} {wr wr' : Key → Bool} : ∀ (t : T) {rs0 rs : List Key} {ws : List (Key × C)},
    vcT G P t g wr (fun r v => rs0 ++ r = rs ∧ v = ws) → (∀ k, k ∈ rs → g' k = g k) → (∀ k, k ∈ rs → wr k = false → wr' k = false) → vcT G P t g' wr' (fun r v => rs0 ++ r = rs ∧ v = ws)
  | .ret ws, rs0, rs, _, h, _, _ => h
  | .fail, _, _, _, h, _, _ => h
  | .get k f, rs0, rs, ws, h, hg, hw => by
    have h' : vcT G P (f (g k)) g wr (fun r v => (rs0 ++ [k]) ++ r = rs ∧ v = ws) := by simpa [vcT] using h
    have hk : k ∈ rs := by
      obtain ⟨r, v, _, h2, _⟩ := vcT_ev _ h'
      rw [← h2]; simp
    have := vcT_local (f (g k)) h' hg hw
    show vcT G P (f (g' k)) g' wr' _
    rw [hg k hk]
    simpa using this
  | .chk k t, rs0, rs, ws, h, hg, hw => by
    have h' : vcT G P t g wr (fun r v => (rs0 ++ [k]) ++ r = rs ∧ v = ws) := by simpa using h.2
    have hk : k ∈ rs := by
      obtain ⟨r, v, _, h2, _⟩ := vcT_ev _ h'
      rw [← h2]; simp
    have := vcT_local t h' hg hw
    exact ⟨hw k hk h.1, by simpa using this⟩
  | .row xs i f, rs0, rs, ws, h, hg, hw => ⟨h.1, fun r e => vcT_local (f r) (h.2 r e) hg hw⟩
  | .byte s i f, rs0, rs, ws, h, hg, hw => ⟨h.1, fun r e => vcT_local (f r) (h.2 r e) hg hw⟩
  | .ival n f, rs0, rs, ws, h, hg, hw => fun m e => vcT_local (f m) (h m e) hg hw
  | .bval n f, rs0, rs, ws, h, hg, hw => fun m e => vcT_local (f m) (h m e) hg hw
  | .sval n f, rs0, rs, ws, h, hg, hw => fun m e => vcT_local (f m) (h m e) hg hw
  | .lval n f, rs0, rs, ws, h, hg, hw => fun m e => vcT_local (f m) (h m e) hg hw
  | .req p t, rs0, rs, ws, h, hg, hw => ⟨h.1, vcT_local t h.2 hg hw⟩
  | .ite b x y, rs0, rs, ws, h, hg, hw => by
    by_cases hb : b = true
    · rw [vcT, if_pos hb] at h ⊢
      exact vcT_local x h hg hw
    · rw [vcT, if_neg hb] at h ⊢
      exact vcT_local y h hg hw
  | .call fn args f, rs0, rs, ws, ⟨res, ow, h0, h2⟩, hg, hw => ⟨res, ow, h0, vcT_local (f res ow) h2 hg hw⟩
  | .know b o f, rs0, rs, ws, ⟨v, h0, h1, h2⟩, hg, hw => ⟨v, h0, h1, vcT_local (f v) h2 hg hw⟩
  | .look es key f, rs0, rs, ws, ⟨r, h0, h2⟩, hg, hw => ⟨r, h0, vcT_local (f r) h2 hg hw⟩
  | .one es b f, rs0, rs, ws, ⟨r, h0, h2⟩, hg, hw => ⟨r, h0, vcT_local (f r) h2 hg hw⟩
  | .hcall fn f, rs0, rs, ws, ⟨D, h0, h2⟩, hg, hw => ⟨D, h0, vcT_local (f D) h2 hg hw⟩
  | .ocall fn args f, rs0, rs, ws, ⟨oin, res, ow, h0, h2⟩, hg, hw => ⟨oin, res, ow, h0, vcT_local (f oin res ow) h2 hg hw⟩
  | .alt x y, rs0, rs, ws, h, hg, hw => h.elim (fun h => .inl (vcT_local x h hg hw)) (fun h => .inr (vcT_local y h hg hw))
  | .mval n f, rs0, rs, ws, h, hg, hw => fun m e => vcT_local (f m) (h m e) hg hw
  | .nval n f, rs0, rs, ws, h, hg, hw => fun m e => vcT_local (f m) (h m e) hg hw

/-- What a computation that asks nothing of memory yields. -/
def pureRun {α : Type} (P : Program) : Sem α → Option α
  | .pure a => some a
  | .program k => pureRun P (k P)
  | .mark _ k => pureRun P k
  | _ => none
theorem pureRun_run {α : Type} {P : Program} : ∀ {s : Sem α} {v : α}, pureRun P s = some v → ∀ w, s.run P w = .ok v w
  | .pure a, v, h, w => by cases h; rfl
  | .program k, v, h, w => pureRun_run (s := k P) h w
  | .mark m k, v, h, w => pureRun_run (s := k) h w

/-! ### the operations -/
def cellP : Value → PV
  | .slice none 0 0 => .nil
  | v => .lit v
def constF : Value → FV
  | .slice none 0 0 => .pv .nil
  | .agg cs => if cs.toList.all Value.oneCell' then .pv (.agg (cs.toList.map cellP)) else .un
  | .tuple _ => .un
  | v => .pv (.lit v)
def opnd (x : Operand) (f : C → T) : T :=
  match x with
  | .tmp t => .get (.t t) f
  | .const v => f ⟨constF v, none, none⟩
  | .global g => f ⟨.pv (.lit (.pointer (some ⟨g, 0, none⟩))), none, none⟩
  | .func n => f ⟨.pv (.lit (.func (.func n) #[] #[])), none, none⟩
def W (dst : Option Tmp) (c : C) : T :=
  match dst with
  | some d => .ret [(.t d, c)]
  | none => .ret []
def WV (dst : Option Tmp) (x : FV) : T := W dst ⟨x, none, none⟩
def WP (dst : Option Tmp) (p : PV) : T := W dst ⟨.pv p, none, none⟩
def isAggD : TypeDesc → Bool
  | .struct _ | .array _ _ => true
  | _ => false
/-- The cells of a value of n cells. -/
def cellsP : PV → Option (List PV)
  | .lit v => some [.lit v]
  | .nil => some [.nil]
  | .sl xs => some [.sl xs]
  | .agg cs => some cs
  | .tup _ => none
def getN (i : Nat) : Nat → Nat → (List PV → T) → T
  | _, 0, f => f []
  | o, n + 1, f => .get (.b i o) fun c => match c.v with
    | .pv p => if p.one = true then getN i (o + 1) n (fun ps => f (p :: ps)) else .fail
    | _ => .fail
/-- All cells from there on are there. -/
def hasN (i : Nat) : Nat → Nat → T → T
  | _, 0, t => t
  | o, n + 1, t => .get (.b i o) fun c => if c.v.isUn = true then .fail else hasN i (o + 1) n t
def opnds : List Operand → (List C → T) → T
  | [], f => f []
  | x :: xs, f => opnd x fun c => opnds xs fun cs => f (c :: cs)
def pvs : List C → Option (List PV)
  | [] => some []
  | c :: cs => match c.v, pvs cs with
    | .pv p, some ps => some (p :: ps)
    | _, _ => none
def tmpOf : Operand → Option Key
  | .tmp t => some (.t t)
  | _ => none
/-- The number of a variable with so many cells that is laid at a temporary. -/
def boxId (d n : Nat) : Nat := 40000 * n + d
def tBox (d : Tmp) (cs : List PV) : T :=
  .get (.al (boxId d cs.length)) fun ca => if ca.v.isNo = true ∧ Nat.blt d 10000 = true then .ret ((.al (boxId d cs.length), liveC) :: (boxW (boxId d cs.length) 0 cs ++ [(.t d, ⟨.ptr (boxId d cs.length) 0, none, none⟩)])) else .fail
/-- A struct of lists of one's own. -/
def structOwn (cx : C) (k : Option Key) : Option (Nat × Key) :=
  match cx.v, cx.own, k with
  | .pv (.agg _), some (code, n), some kx => if n = 0 then some (code, kx) else none
  | _, _, _ => none
theorem structOwn_some {cx : C} {k : Option Key} {code : Nat} {kx : Key} (h : structOwn cx k = some (code, kx)) : cx.own = some (code, 0) ∧ k = some kx ∧ ∃ cs, cx.v = .pv (.agg cs) := by
  unfold structOwn at h
  split at h
  · rename_i cs code' n kx' h1 h2
    split at h
    · rename_i hn; cases h; subst hn; exact ⟨h2, rfl, _, h1⟩
    · cases h
  · cases h
def tBoxO (d : Tmp) (cs : List PV) (kx : Key) (kc : C) (ows : List Own) : T :=
  .get (.al (boxId d cs.length)) fun ca => if ca.v.isNo = true ∧ Nat.blt d 10000 = true then .ret ((kx, kc) :: (.al (boxId d cs.length), liveC) :: (boxWO (boxId d cs.length) 0 ows cs ++ [(.t d, ⟨.ptr (boxId d cs.length) 0, none, none⟩)])) else .fail
theorem boxId_hand {d n : Nat} (h : d < 10000) : handId (boxId d n) = false := by
  unfold handId boxId
  have : (40000 * n + d) / 10000 % 2 = 0 := by omega
  rw [this]
  rfl
theorem boxId_cell {d n o : Nat} (h : d < 10000) (ho : o < n) : isCell (boxId d n) o = true := by
  unfold isCell objId boxId
  have h1 : (40000 * n + d) / 10000 % 4 = 0 := by omega
  have h2 : (40000 * n + d) / 40000 = n := by omega
  have h3 : Nat.ble 2 0 = false := rfl
  rw [h1, h2, h3]
  simp [Nat.blt_eq, ho]
/-- The lists in a value of a type: their cells, the elements' types, the cells of a row. -/
def shO (τ : Tau) : Nat → Nat → TypeId → List (Nat × TypeId × Nat)
  | 0, _, _ => []
  | n + 1, off, t => match τ t with
    | some ti => match ti.desc with
      | .slice e => match τ e with
        | some te => [(off, e, te.size)]
        | none => []
      | .struct fs => (fs.toList.map fun f => shO τ n (off + f.offset) f.type).flatten
      | _ => []
    | none => []
def getNC (i : Nat) : Nat → Nat → (List C → T) → T
  | _, 0, f => f []
  | o, n + 1, f => .get (.b i o) fun c => match c.v with
    | .pv p => if p.one = true then getNC i (o + 1) n (fun cs => f (c :: cs)) else .fail
    | .slp _ _ _ _ => getNC i (o + 1) n (fun cs => f (c :: cs))
    | _ => .fail
/-- Cells as parts of a struct. -/
def cvsA : List C → Option (List CV)
  | [] => some []
  | c :: r => match c.v, cvsA r with
    | .pv p, some cs => some (.pv p :: cs)
    | .slp i k lo n, some cs => some (.slp i k lo n :: cs)
    | _, _ => none
def anyOwn : List C → Bool
  | [] => false
  | c :: r => match c.own with
    | some _ => true
    | none => anyOwn r
def memO (o : Nat) : List (Nat × TypeId × Nat) → Bool
  | [] => false
  | (o', _, _) :: r => if o = o' then true else memO o r
/-- The cells give up what they own, all of it. -/
def clrC (i off : Nat) (cs : List C) : List (Nat × TypeId × Nat) → Option (List (Key × C))
  | [] => some []
  | (o, e, k) :: r => match clrC i off cs r, cs[o]? with
    | some ws, some c => if memO o r = true ∨ k = 0 then none else match c.own with
      | some p => if p.1 = e ∧ p.2 = k then some (ws ++ [(.b i (off + o), ⟨c.v, none, c.frm⟩)]) else none
      | none => match c.v with
        | .pv .nil => some ws
        | _ => none
    | _, _ => none
def collW (τ : Tau) (i off : Nat) (t : TypeId) (cs : List C) : Option (Nat × List (Key × C)) :=
  match anyOwn cs with
  | false => none
  | true => match clrC i off cs (decO 16 (encO (shO τ 4 0 t))) with
    | some ws => some (encO (shO τ 4 0 t), ws)
    | none => none
def tLoad (τ : Tau) (dst : Option Tmp) (t : TypeId) (c : C) : T :=
  match c.v, τ t with
  | .ptr i o, some ti => if isAggD ti.desc = true then getNC i o ti.size (fun cs => match pvs cs with
    | some ps => (match dst, collW τ i o t cs with
      | some d, some (code, ws) => .ret (ws ++ [(.t d, ⟨.pv (.agg ps), some (code, 0), none⟩)])
      | _, _ => WP dst (.agg ps))
    | none => match cvsA cs with
      | some vs => WV dst (.aggf vs)
      | none => .fail) else .get (.b i o) fun cc => if cc.v.isUn = true then .fail else W dst ⟨cc.v, none, some (.b i o)⟩
  | .ept row j, some ti => if isAggD ti.desc = true then (if ((row.drop j).take ti.size).length = ti.size ∧ ((row.drop j).take ti.size).all PV.one = true then WP dst (.agg ((row.drop j).take ti.size)) else .fail) else match row[j]? with
    | some p => if p.one = true then WP dst p else .fail
    | none => .fail
  | .rpt i k r j, some ti => .get (.b i 0) fun cc => match cc.v with
    | .rows k' xs => if k = k' then .row xs r fun row => (if isAggD ti.desc = true then (if ((row.drop j).take ti.size).length = ti.size ∧ ((row.drop j).take ti.size).all PV.one = true then WP dst (.agg ((row.drop j).take ti.size)) else .fail) else match row[j]? with
      | some p => if p.one = true then WP dst p else .fail
      | none => .fail) else .fail
    | _ => .fail
  | .pv (.lit (.pointer (some ⟨b, o, none⟩))), some ti => if isAggD ti.desc = true then .fail else .know b o fun v => WP dst (cellP v)
  | _, _ => .fail
def tSlice3 (τ : Tau) (dst : Option Tmp) (ty : TypeId) (cx ch cm : C) : T :=
  match τ ty with
  | some ti => match ti.desc, cx.v, ch.v, cm.v with
    | .slice e, .slp i k l0 n, .pv (.lit (.int _ h)), .pv (.lit (.int _ m)) => match τ e with
      | some te => if te.size = k then .req (fun _ => 0 ≤ h ∧ h ≤ m ∧ m ≤ n) (.nval (fun _ => h.toNat) fun b => WV dst (.slp i k l0 b)) else .fail
      | none => .fail
    | .slice e, .pv (.sl xs), .pv (.lit (.int _ h)), .pv (.lit (.int _ m)) => match τ e with
      | some _ => .req (fun _ => h = (xs.length : Int) ∧ m = (xs.length : Int)) (WP dst (.sl xs))
      | none => .fail
    | _, _, _, _ => .fail
  | none => .fail
/-- Parts laid into cells. -/
def setCs (cs : List PV) : Nat → List PV → List PV
  | _, [] => cs
  | o, p :: ps => setCs (cs.set o p) (o + 1) ps
/-- One cell, and no pure value. -/
def FV.isPtr : FV → Bool
  | .ptr _ _ | .mp _ | .it _ | .slp _ _ _ _ | .rpt _ _ _ _ | .clo _ _ => true
  | _ => false
def storeOwn (cx : C) (k : Option Key) (cs : List PV) : Option ((TypeId × Nat) × Key × PV) :=
  match cx.own, k, cs with
  | some ow, some kx, [q] => if ow.2 = 0 then none else some (ow, kx, q)
  | _, _, _ => none
theorem storeOwn_some {cx : C} {k : Option Key} {cs : List PV} {ow : TypeId × Nat} {kx : Key} {q : PV} (h : storeOwn cx k cs = some (ow, kx, q)) : cx.own = some ow ∧ k = some kx ∧ cs = [q] ∧ ow.2 ≠ 0 := by
  unfold storeOwn at h
  split at h
  · rename_i h1
    split at h
    · cases h
    · rename_i h2; cases h; exact ⟨h1, rfl, rfl, h2⟩
  · cases h
def CV.fv : CV → FV
  | .pv p => .pv p
  | .ptr i o => .ptr i o
  | .mp i => .mp i
  | .slp i k lo n => .slp i k lo n
def fvsC : List CV → List FV
  | [] => []
  | c :: r => c.fv :: fvsC r
def tStore (τ : Tau) (t : TypeId) (x : Operand) (ca cx : C) : T :=
  match ca.v, cx.v, τ t with
  | .ptr i o, .pv p, some ti =>
    match cellsP p with
    | some cs => if cs.length = ti.size then (match storeOwn cx (tmpOf x) cs with
      | some (ow, kx, q) => .get (.b i o) fun old => if old.v.isUn = true then .fail else .ret [(kx, ⟨cx.v, none, cx.frm⟩), (.b i o, ⟨.pv q, some ow, none⟩)]
      | none => match structOwn cx (tmpOf x) with
        | some (code, kx) => hasN i o cs.length (.ret ((kx, ⟨cx.v, none, cx.frm⟩) :: boxWO i o (ownsFrom 0 cs.length (decO 16 code)) cs))
        | none => hasN i o cs.length (.ret (boxW i o cs))) else .fail
    | none => .fail
  | .rpt i k r j, .pv p, some ti => match cellsP p with
    | some cs => if cs.length = ti.size then .get (.b i 0) (fun cc => match cc.v with
      | .rows k' xs => if k = k' then .row xs r fun row => (if j + cs.length ≤ row.length then .lval (fun _ => xs.set r (setCs row j cs)) fun ys => .ret [(.b i 0, ⟨.rows k ys, none, none⟩)] else .fail) else .fail
      | _ => .fail) else .fail
    | none => .fail
  | .ptr i o, .aggf vs, some ti => if vs.length = ti.size then hasN i o vs.length (.ret (boxF i o (fvsC vs))) else .fail
  | .ptr i o, x, some ti => if x.isPtr = true ∧ ti.size = 1 then hasN i o 1 (.ret [(.b i o, ⟨x, none, none⟩)]) else .fail
  | _, _, _ => .fail
/-- Are two structs of scalars alike? -/
def eqLit (d : TypeDesc) (u v : PV) : Option (Unit → Bool) :=
  match d, u, v with
  | .int _, .lit (.int k a), .lit (.int k' b) => if k = k' then some (fun _ => decide (a = b)) else none
  | .string, .lit (.string a), .lit (.string b) => some (fun _ => decide (a = b))
  | .bool, .lit (.bool a), .lit (.bool b) => some (fun _ => decide (a = b))
  | _, _, _ => none
def eqFs (τ : Tau) : List Field → List PV → List PV → Option (Unit → Bool)
  | [], _, _ => some (fun _ => true)
  | f :: fs, as, bs => if f.name = "_" then none else match τ f.type, as[f.offset]?, bs[f.offset]?, eqFs τ fs as bs with
    | some ti, some u, some v, some r => match eqLit ti.desc u v with
      | some q => some (fun _ => q () && r ())
      | none => none
    | _, _, _, _ => none
def tEqS (τ : Tau) (dst : Option Tmp) (neg : Bool) (ty : TypeId) (as bs : List PV) : T :=
  match τ ty with
  | some ti => match ti.desc with
    | .struct fs => if ti.eqOK () = true then (match eqFs τ fs.toList as bs with
      | some q => .bval (fun _ => if neg = true then !(q ()) else q ()) fun b => WP dst (.lit (.bool b))
      | none => .fail) else .fail
    | _ => .fail
  | none => .fail
def tBin (P : Program) (τ : Tau) (dst : Option Tmp) (op : BinOp) (ty : TypeId) (x y : Operand) (cx cy : C) : T :=
  match cx.v, cy.v with
  | .pv (.lit a), .pv (.lit b) =>
    match op, a, b with
    | .add, .int k m, .int k' n => if k = k' then .ival (fun _ => (k.wrap (m + n))) fun r => WP dst (.lit (.int k r)) else .fail
    | .sub, .int k m, .int k' n => if k = k' then .ival (fun _ => (k.wrap (m - n))) fun r => WP dst (.lit (.int k r)) else .fail
    | .mul, .int k m, .int k' n => if k = k' then .ival (fun _ => (k.wrap (m * n))) fun r => WP dst (.lit (.int k r)) else .fail
    | .eql, .int k m, .int k' n => if k = k' then .bval (fun _ => (decide (m = n))) fun b => WP dst (.lit (.bool b)) else .fail
    | .neq, .int k m, .int k' n => if k = k' then .bval (fun _ => (decide (m ≠ n))) fun b => WP dst (.lit (.bool b)) else .fail
    | .lss, .int k m, .int k' n => if k = k' then .bval (fun _ => (decide (m < n))) fun b => WP dst (.lit (.bool b)) else .fail
    | .leq, .int k m, .int k' n => if k = k' then .bval (fun _ => (decide (m ≤ n))) fun b => WP dst (.lit (.bool b)) else .fail
    | .gtr, .int k m, .int k' n => if k = k' then .bval (fun _ => (decide (n < m))) fun b => WP dst (.lit (.bool b)) else .fail
    | .geq, .int k m, .int k' n => if k = k' then .bval (fun _ => (decide (n ≤ m))) fun b => WP dst (.lit (.bool b)) else .fail
    | .add, .string s, .string u => .req (fun _ => s.size + u.size ≤ 9223372036854775807) (.sval (fun _ => (s ++ u)) fun r => WP dst (.lit (.string r)))
    | .eql, .string s, .string u => .bval (fun _ => (decide (s = u))) fun b => WP dst (.lit (.bool b))
    | .neq, .string s, .string u => .bval (fun _ => (decide (s ≠ u))) fun b => WP dst (.lit (.bool b))
    | .lss, .string s, .string u => .bval (fun _ => (Op.bytesLess s.toList u.toList)) fun b => WP dst (.lit (.bool b))
    | .geq, .string s, .string u => .bval (fun _ => (!(Op.bytesLess s.toList u.toList))) fun b => WP dst (.lit (.bool b))
    | .leq, .string s, .string u => .bval (fun _ => (Op.bytesLess s.toList u.toList || s.toList == u.toList)) fun b => WP dst (.lit (.bool b))
    | .gtr, .string s, .string u => .bval (fun _ => (!(Op.bytesLess s.toList u.toList || s.toList == u.toList))) fun b => WP dst (.lit (.bool b))
    | .eql, .bool s, .bool u => match τ ty with
      | some ⟨.bool, _, _, _, _⟩ => .bval (fun _ => (decide (s = u))) fun b => WP dst (.lit (.bool b))
      | _ => .fail
    | .neq, .bool s, .bool u => match τ ty with
      | some ⟨.bool, _, _, _, _⟩ => .bval (fun _ => (decide (s ≠ u))) fun b => WP dst (.lit (.bool b))
      | _ => .fail
    | .quo, .int k m, .int k' n => if k = k' then .req (fun _ => n ≠ 0) (.ival (fun _ => (k.wrap (m.tdiv n))) fun r => WP dst (.lit (.int k r))) else .fail
    | .rem, .int k m, .int k' n => if k = k' then .req (fun _ => n ≠ 0) (.ival (fun _ => (m.tmod n)) fun r => WP dst (.lit (.int k r))) else .fail
    | _, _, _ => .fail
  | .pv (.agg as), .pv (.agg bs) => match op with
    | .eql => tEqS τ dst false ty as bs
    | .neq => tEqS τ dst true ty as bs
    | _ => .fail
  | _, _ => .fail
def tUn (P : Program) (dst : Option Tmp) (op : UnOp) (c : C) : T :=
  match c.v with
  | .pv (.lit a) => match op, a with
    | .not, .bool b => .bval (fun _ => (!b)) fun b => WP dst (.lit (.bool b))
    | .neg, .int k n => .ival (fun _ => (k.wrap (0 - n))) fun r => WP dst (.lit (.int k r))
    | _, _ => .fail
  | _ => .fail
def tConv (τ : Tau) (dst : Option Tmp) (src ty : TypeId) (c : C) : T :=
  match c.v, τ src, τ ty with
  | .pv (.lit (.int _ n)), some s, some d => match d.desc with
    | .int k => .ival (fun _ => (k.wrap n)) fun r => WP dst (.lit (.int k r))
    | _ => .fail
  | _, _, _ => .fail
def tField (τ : Tau) (dst : Option Tmp) (ty : TypeId) (f : Nat) (c : C) : T :=
  match c.v, τ ty with
  | .pv (.agg cs), some ti => match ti.desc with
    | .struct fs => match fs[f]? with
      | some fd => match τ fd.type with
        | some ft => if isAggD ft.desc = true then (if ((cs.drop fd.offset).take ft.size).length = ft.size then WP dst (.agg ((cs.drop fd.offset).take ft.size)) else .fail) else (match cs[fd.offset]? with
          | some p => if p.one = true then WP dst p else .fail
          | none => .fail)
        | none => .fail
      | none => .fail
    | _ => .fail
  | _, _ => .fail
def tFieldAddr (τ : Tau) (dst : Option Tmp) (ty : TypeId) (f : Nat) (c : C) : T :=
  match τ ty with
  | some ti => match ti.desc with
    | .struct fs => match fs[f]? with
      | some fd => match τ fd.type with
        | some ft => if ft.size = 0 then .fail else (match c.v with
          | .ptr i o => WV dst (.ptr i (o + fd.offset))
          | .ept row j => WV dst (.ept row (j + fd.offset))
          | .rpt i k r j => WV dst (.rpt i k r (j + fd.offset))
          | _ => .fail)
        | none => .fail
      | none => .fail
    | _ => .fail
  | none => .fail
def rowT (dst : Option Tmp) (size : Nat) (xs : List (List PV)) (i : Int) : T := .row xs i fun r => if r.length = size then WV dst (.ept r 0) else .fail
def tIndexAddr (τ : Tau) (dst : Option Tmp) (ty : TypeId) (cx ci : C) : T :=
  match τ ty with
  | some ti => match ti.desc, cx.v, ci.v with
    | .slice e, .pv (.sl xs), .pv (.lit (.int k i)) => match τ e with
      | some te => rowT dst te.size xs i
      | none => .fail
    | .slice e, .slp i k lo n, .pv (.lit (.int _ ix)) => match τ e with
      | some te => if te.size = k then .req (fun _ => 0 ≤ ix ∧ ix < n) (.nval (fun _ => lo + ix.toNat) fun r => WV dst (.rpt i k r 0)) else .fail
      | none => .fail
    | _, _, _ => .fail
  | none => .fail
def chunks (k : Nat) : Nat → List PV → List (List PV)
  | 0, _ => []
  | n + 1, cs => cs.take k :: chunks k n (cs.drop k)
def tIndex (τ : Tau) (dst : Option Tmp) (ty : TypeId) (cx ci : C) : T :=
  match τ ty with
  | some ti => match ti.desc, cx.v, ci.v with
    | .string, .pv (.lit (.string s)), .pv (.lit (.int k i)) => .byte s i fun b => .ival (fun _ => b.toNat) fun r => WP dst (.lit (.int .u8 r))
    | .array n e, .pv (.agg cs), .pv (.lit (.int k i)) => match τ e with
      | some te => if isAggD te.desc = true then .fail else if te.size = 1 then (if cs.length = n then .row (cs.map fun c => [c]) i fun r => (match r with
        | [p] => if p.one = true then WP dst p else .fail
        | _ => .fail) else .fail) else .fail
      | none => .fail
    | _, _, _ => .fail
  | none => .fail
def sliceT (dst : Option Tmp) (size : Nat) (xs : List (List PV)) (lo hi : Option C) : T :=
  match lo, hi with
  | none, none => WP dst (.sl xs)
  | some l, none => match l.v with
    | .pv (.lit (.int _ l)) => .req (fun _ => 0 ≤ l ∧ l ≤ xs.length ∧ ∀ r, r ∈ xs → r.length = size) (.lval (fun _ => (xs.drop l.toNat)) fun r => WP dst (.sl r))
    | _ => .fail
  | none, some h => match h.v with
    | .pv (.lit (.int _ h)) => .req (fun _ => 0 ≤ h ∧ h ≤ xs.length ∧ ∀ r, r ∈ xs → r.length = size) (.lval (fun _ => (xs.take h.toNat)) fun r => WP dst (.sl r))
    | _ => .fail
  | some l, some h => match l.v, h.v with
    | .pv (.lit (.int _ l)), .pv (.lit (.int _ h)) => .req (fun _ => 0 ≤ l ∧ l ≤ h ∧ h ≤ xs.length ∧ ∀ r, r ∈ xs → r.length = size) (.lval (fun _ => ((xs.take h.toNat).drop l.toNat)) fun r => WP dst (.sl r))
    | _, _ => .fail
def tSlice (τ : Tau) (dst : Option Tmp) (ty : TypeId) (cx : C) (lo hi : Option C) : T :=
  match τ ty with
  | some ti => match ti.desc, cx.v with
    | .string, .pv (.lit (.string s)) => match lo, hi with
      | none, none => (.sval (fun _ => (s.extract 0 s.size)) fun r => WP dst (.lit (.string r)))
      | some l, none => match l.v with
        | .pv (.lit (.int _ l)) => .req (fun _ => 0 ≤ l ∧ l ≤ s.size) ((.sval (fun _ => (s.extract l.toNat s.size)) fun r => WP dst (.lit (.string r))))
        | _ => .fail
      | none, some h => match h.v with
        | .pv (.lit (.int _ h)) => .req (fun _ => 0 ≤ h ∧ h ≤ s.size) ((.sval (fun _ => (s.extract 0 h.toNat)) fun r => WP dst (.lit (.string r))))
        | _ => .fail
      | some l, some h => match l.v, h.v with
        | .pv (.lit (.int _ l)), .pv (.lit (.int _ h)) => .req (fun _ => 0 ≤ l ∧ l ≤ h ∧ h ≤ s.size) ((.sval (fun _ => (s.extract l.toNat h.toNat)) fun r => WP dst (.lit (.string r))))
        | _, _ => .fail
    | .slice e, .pv (.sl xs) => match τ e with
      | some te => if te.size = 0 then .fail else sliceT dst te.size xs lo hi
      | none => .fail
    | .slice e, .slp i k l0 n => match τ e with
      | some te => if te.size = k then (match lo, hi with
        | none, none => WV dst (.slp i k l0 n)
        | some l, none => match l.v with
          | .pv (.lit (.int _ l)) => .req (fun _ => 0 ≤ l ∧ l ≤ n) (.nval (fun _ => l0 + l.toNat) fun a => .nval (fun _ => n - l.toNat) fun b => WV dst (.slp i k a b))
          | _ => .fail
        | none, some h => match h.v with
          | .pv (.lit (.int _ h)) => .req (fun _ => 0 ≤ h ∧ h ≤ n) (.nval (fun _ => h.toNat) fun b => WV dst (.slp i k l0 b))
          | _ => .fail
        | some l, some h => match l.v, h.v with
          | .pv (.lit (.int _ l)), .pv (.lit (.int _ h)) => .req (fun _ => 0 ≤ l ∧ l ≤ h ∧ h ≤ n) (.nval (fun _ => l0 + l.toNat) fun a => .nval (fun _ => h.toNat - l.toNat) fun b => WV dst (.slp i k a b))
          | _, _ => .fail) else .fail
      | none => .fail
    | _, _ => .fail
  | none => .fail
def layParts (place : Nat → Option (Nat × Nat)) : List PV → List (Nat × PV) → Option (List PV)
  | cs, [] => some cs
  | cs, (i, p) :: rest => match place i, cellsP p with
    | some (off, size), some ps => if ps.length = size ∧ off + ps.length ≤ cs.length then layParts place (setCs cs off ps) rest else none
    | _, _ => none
def placesOf (τ : Tau) : List Field → Option (List (Nat × Nat))
  | [] => some []
  | f :: fs => match τ f.type, placesOf τ fs with
    | some ft, some r => some ((f.offset, ft.size) :: r)
    | _, _ => none
def memK' (κ : Key) : List (Key × C) → Bool
  | [] => false
  | (κ', _) :: r => if κ = κ' then true else memK' κ r
/-- The part that is laid into a cell. -/
def covO {α : Type} (pl : List (Nat × Nat)) (o : Nat) : List Nat → List α → Option α → Option α
  | i :: is, a :: as, prev => match pl[i]? with
    | some (off, size) => if off ≤ o ∧ o < off + size then (if off = o ∧ size = 1 then covO pl o is as (some a) else covO pl o is as none) else covO pl o is as prev
    | none => none
  | _, _, prev => prev
def zipXC : List Operand → List C → List (Operand × C)
  | x :: xs, c :: cs => (x, c) :: zipXC xs cs
  | _, _ => []
/-- A struct is made of lists of one's own. -/
def bldC (pl : List (Nat × Nat)) (is : List Nat) (xcs : List (Operand × C)) (r : List PV) : List (Nat × TypeId × Nat) → Option (List (Key × C))
  | [] => some []
  | (o, e, k) :: rest => match bldC pl is xcs r rest with
    | some ws => if memO o rest = true ∨ k = 0 then none else match covO pl o is xcs none with
      | some (x, c) => (match c.own, tmpOf x with
        | some p, some kx => if p.1 = e ∧ p.2 = k ∧ memK' kx ws = false then some (ws ++ [(kx, ⟨c.v, none, c.frm⟩)]) else none
        | _, _ => match r[o]? with
          | some .nil => some ws
          | _ => none)
      | none => match r[o]? with
        | some .nil => some ws
        | _ => none
    | none => none
def bldW (τ : Tau) (t : TypeId) (pl : List (Nat × Nat)) (is : List Nat) (xs : List Operand) (cs : List C) (r : List PV) : Option (Nat × List (Key × C)) :=
  match anyOwn cs with
  | false => none
  | true => match bldC pl is (zipXC xs cs) r (decO 16 (encO (shO τ 4 0 t))) with
    | some ws => some (encO (shO τ 4 0 t), ws)
    | none => none
def tBuild (τ : Tau) (dst : Option Tmp) (ty : TypeId) (is : List Nat) (xs : List Operand) (cs : List C) : T :=
  match τ ty, pvs cs with
  | some ti, some ps => match ti.desc with
    | .struct fs => match placesOf τ fs.toList with
      | some pl => match layParts (fun i => pl[i]?) (ti.zero.cells.toList.map cellP) (is.zip ps) with
        | some r => (match dst, bldW τ ty pl is xs cs r with
          | some d, some (code, ws) => .ret (ws ++ [(.t d, ⟨.pv (.agg r), some (code, 0), none⟩)])
          | _, _ => WP dst (.agg r))
        | none => .fail
      | none => .fail
    | .array _ e => match τ e with
      | some te => match layParts (fun i => some (i * te.size, te.size)) (ti.zero.cells.toList.map cellP) (is.zip ps) with
        | some r => WP dst (.agg r)
        | none => .fail
      | none => .fail
    | _ => .fail
  | _, _ => .fail
/-- Rows of so many cells each. -/
def rowsOf (k : Nat) : List PV → Option (List (List PV))
  | [] => some []
  | p :: ps => match cellsP p, rowsOf k ps with
    | some cs, some r => if cs.length = k then some (cs.map PV.n1 :: r) else none
    | _, _ => none
def tBuildSlice (τ : Tau) (dst : Option Tmp) (ty : TypeId) (len : Nat) (is : List Nat) (cs : List C) : T :=
  match τ ty, pvs cs with
  | some ti, some ps => match ti.desc with
    | .slice e => match τ e with
      | some te => if is = List.range len ∧ len * te.size ≤ 16777216 ∧ 0 < te.size then (match rowsOf te.size ps with
        | some xs => if xs.length = len then W dst ⟨.pv (.sl xs), some (e, te.size), none⟩ else .fail
        | none => .fail) else .fail
      | none => .fail
    | _ => .fail
  | _, _ => .fail
def lenT (dst : Option Tmp) (τ : Tau) (ty : TypeId) (c : C) : T :=
  match τ ty with
  | some ti => match ti.desc, c.v with
    | .slice _, .pv (.sl xs) => .ival (fun _ => xs.length) fun r => WP dst (.lit (.int .i64 r))
    | .slice _, .pv .nil => WP dst (.lit (.int .i64 0))
    | .slice _, .slp _ _ _ n => .ival (fun _ => n) fun r => WP dst (.lit (.int .i64 r))
    | .string, .pv (.lit (.string s)) => .ival (fun _ => s.size) fun r => WP dst (.lit (.int .i64 r))
    | .array n _, _ => WP dst (.lit (.int .i64 n))
    | _, _ => .fail
  | none => .fail
/-- append: rows `ys` behind a list; 'ow' the key whose own the list is. -/
def appT (dst : Option Tmp) (size bytes : Nat) (e : TypeId) (xs ys : List (List PV)) (ws : List (Key × C)) : T :=
  .req (fun _ => (xs.length + ys.length) * bytes ≤ 140737488355328 ∧ (∀ r, r ∈ xs → r.length = size) ∧ (∀ r, r ∈ ys → r.length = size)) (match dst with
    | some d => .lval (fun _ => (xs ++ ys)) fun r => .ret (ws ++ [(.t d, ⟨.pv (.sl r), some (e, size), none⟩)])
    | none => .fail)
def tAppend (τ : Tau) (dst : Option Tmp) (ty : TypeId) (x : Operand) (cx cy : C) : T :=
  match τ ty with
  | some ti => match ti.desc with
    | .slice e => match τ e with
      | some te => if te.size = 0 then .fail else if te.bytes = 0 then .fail else
        match (match cy.v with | .pv (.sl ys) => some ys | .pv .nil => some [] | _ => none) with
        | none => .fail
        | some ys => match cx.v with
          | .pv .nil => appT dst te.size te.bytes e [] ys []
          | .pv (.sl xs) => match tmpOf x with
            | none => .fail
            | some kx => match cx.own with
              | some (e', k') => if e' = e ∧ k' = te.size then appT dst te.size te.bytes e xs ys [(kx, ⟨cx.v, none, cx.frm⟩)] else .fail
              | none => match cx.frm with
                | none => .fail
                | some kf => .get kf fun cf => .chk kf (match cf.own with
                  | some (e', k') => if e' = e ∧ k' = te.size then appT dst te.size te.bytes e xs ys [(kf, ⟨cf.v, none, cf.frm⟩)] else .fail
                  | none => .fail)
          | _ => .fail
      | none => .fail
    | _ => .fail
  | none => .fail
def tMaxMin (dst : Option Tmp) (mx : Bool) (ca cb : C) : T :=
  match ca.v, cb.v with
  | .pv (.lit (.int k x)), .pv (.lit (.int _ y)) => .ival (fun _ => (if mx = true then max x y else min x y)) fun r => WP dst (.lit (.int k r))
  | _, _ => .fail
/-! ### maps -/
def litShape : TypeDesc → PV → Bool
  | .int k, .lit (.int k' _) => decide (k = k')
  | .string, .lit (.string _) => true
  | .bool, .lit (.bool _) => true
  | _, _ => false
def fieldsShape (τ : Tau) : List Field → Nat → List PV → Bool
  | [], _, [] => true
  | f :: fs, o, c :: cs => if f.name = "_" then false else if f.offset = o then (match τ f.type with
    | some ti => litShape ti.desc c && fieldsShape τ fs (o + 1) cs
    | none => false) else false
  | _, _, _ => false
/-- Can be a map's key of this type: a scalar, or a struct of scalars. -/
def keyShape (τ : Tau) (t : TypeId) (p : PV) : Bool :=
  match τ t with
  | some ti => match ti.desc with
    | .struct fs => match p with
      | .agg cs => ti.eqOK () && fieldsShape τ fs.toList 0 cs
      | _ => false
    | d => litShape d p
  | none => false
def objBox (d : Tmp) : Nat := 20000 + d
def tNew (d : Tmp) (content : FV) (v : Nat → FV) : T :=
  .get (.al (objBox d)) fun ca => if ca.v.isNo = true ∧ Nat.blt d 10000 = true then .ret [(.al (objBox d), liveC), (.b (objBox d) 0, ⟨content, none, none⟩), (.t d, ⟨v (objBox d), none, none⟩)] else .fail
def setE (es : List ME) (b : Nat) (v : PV) : List ME := es.map fun e => if e.born = b then { e with val := v } else e
def litEq : PV → PV → Option Bool
  | .lit (.int k a), .lit (.int k' b) => if k = k' then some (decide (a = b)) else none
  | .lit (.string a), .lit (.string b) => some (decide (a = b))
  | .lit (.bool a), .lit (.bool b) => some (decide (a = b))
  | _, _ => none
def findP (key : PV) : List MP → Option (Option MP)
  | [] => some none
  | e :: r => match litEq key e.key, findP key r with
    | some true, some none => some (some e)
    | some false, some x => some x
    | _, _ => none
def bornP (b : Nat) : List MP → Option MP
  | [] => none
  | e :: r => if e.born = b then some e else bornP b r
def tMapUp (τ : Tau) (dst : Option Tmp) (ty : TypeId) (cm ck cv : C) : T :=
  match dst, τ ty, cm.v, ck.v with
  | none, some ti, .mp i, .pv key => match ti.desc with
    | .map kt et => .get (.b i 0) fun c => match c.v, cv.v with
      | .ents es clk, .pv val => .req (fun _ => keyShape τ kt key = true ∧ ∀ e, e ∈ es → keyShape τ kt e.key = true) (.look es key fun r => match r with
        | some e => .mval (fun _ => setE es e.born val) fun es' => .ret [(.b i 0, ⟨.ents es' clk, none, none⟩)]
        | none => .mval (fun _ => es ++ [⟨clk, key, val⟩]) fun es' => .nval (fun _ => clk + 1) fun clk' => .ret [(.b i 0, ⟨.ents es' clk', none, none⟩)])
      | .ents [] clk, .ptr j o => if keyShape τ kt key = true then .ret [(.b i 0, ⟨.entp [⟨clk, key, j, o⟩] (clk + 1), none, none⟩)] else .fail
      | .entp es clk, .ptr j o => if keyShape τ kt key = true then (match findP key es with
        | some none => .ret [(.b i 0, ⟨.entp (es ++ [⟨clk, key, j, o⟩]) (clk + 1), none, none⟩)]
        | _ => .fail) else .fail
      | _, _ => .fail
    | _ => .fail
  | _, _, _, _ => .fail
def zeroP (ti : TI) : PV := match ti.zero with
  | .agg cs => .agg (cs.toList.map cellP)
  | v => cellP v
def outP (dst : Option Tmp) (ok : Bool) (p : PV) (b : Bool) : T := if ok = true then WP dst (.tup [p, .lit (.bool b)]) else WP dst p
def tLookup (τ : Tau) (dst : Option Tmp) (ty : TypeId) (ok : Bool) (cm ck : C) : T :=
  match τ ty, cm.v, ck.v with
  | some ti, .mp i, .pv key => match ti.desc with
    | .map kt et => match τ et with
      | some te => .get (.b i 0) fun c => match c.v with
        | .ents es clk => .req (fun _ => keyShape τ kt key = true ∧ ∀ e, e ∈ es → keyShape τ kt e.key = true) (.look es key fun r => match r with
          | some e => outP dst ok e.val true
          | none => outP dst ok (zeroP te) false)
        | .entp es clk => if keyShape τ kt key = true then (match findP key es with
          | some (some e) => if ok = true then WV dst (.tupf [.ptr e.i e.o, .pv (.lit (.bool true))]) else WV dst (.ptr e.i e.o)
          | some none => outP dst ok (zeroP te) false
          | none => .fail) else .fail
        | _ => .fail
      | none => .fail
    | _ => .fail
  | _, _, _ => .fail
def tRange (τ : Tau) (dst : Option Tmp) (ty : TypeId) (c : C) : T :=
  match dst, τ ty, c.v with
  | some d, some ti, .mp i => match ti.desc with
    | .map _ _ => .get (.b i 0) fun cc => match cc.v with
      | .ents _ clk => tNew d (.iter i clk []) .it
      | .entp _ clk => tNew d (.iter i clk []) .it
      | _ => .fail
    | _ => .fail
  | some d, some ti, .pv (.lit (.string s)) => match ti.desc with
    | .string => tNew d (.siter s 0) .it
    | _ => .fail
  | _, _, _ => .fail
def tEntry (dst : Option Tmp) (c : C) : T :=
  match c.v with
  | .it i => .get (.b i 0) fun ci => match ci.v with
    | .iter m clk (b :: _) => .get (.b m 0) fun cc => match cc.v with
      | .ents es clk' => .req (fun _ => clk = clk') (.one es b fun e => WP dst (.tup [e.key, e.val]))
      | .entp es clk' => .req (fun _ => clk = clk') (match bornP b es with
        | some e => WV dst (.tupf [.pv e.key, .ptr e.i e.o])
        | none => .fail)
      | _ => .fail
    | _ => .fail
  | _ => .fail
def tClear (τ : Tau) (dst : Option Tmp) (ty : TypeId) (c : C) : T :=
  match dst, τ ty, c.v with
  | none, some ti, .slp i k lo n => match ti.desc with
    | .slice e => match τ e with
      | some te => if te.size = k then .get (.b i 0) fun cc => match cc.v with
        | .rows k' xs => if k = k' then .req (fun _ => lo + n ≤ xs.length) (.lval (fun _ => xs.take lo ++ (List.replicate n (te.zero.cells.toList.map cellP) ++ xs.drop (lo + n))) fun ys => .ret [(.b i 0, ⟨.rows k ys, none, none⟩)]) else .fail
        | _ => .fail else .fail
      | none => .fail
    | _ => .fail
  | _, _, _ => .fail
/-! ### calls that memory is handed to -/
def FV.normV : FV → FV
  | .pv p => .pv p.norm
  | x => x
/-- Is a value one that is wanted? -/
def FV.leV (x y : FV) : Prop := y = .un ∨ x = y ∨ x.normV = y
def assoc : List (Nat × Nat) → Nat → Nat
  | [], _ => 0
  | (a, b) :: r, i => if a = i then b else assoc r i

def capsOf : List C → Option (List CV)
  | [] => some []
  | c :: r => match c.v, capsOf r with
    | .pv p, some cs => some (.pv p :: cs)
    | .ptr i o, some cs => some (.ptr i o :: cs)
    | .mp i, some cs => some (.mp i :: cs)
    | _, _ => none
def fvs : List C → List FV
  | [] => []
  | c :: r => c.v :: fvs r
def appF : List FV → List FV → List FV
  | [], ys => ys
  | x :: xs, ys => x :: appF xs ys
def pvsF : List FV → Option (List PV)
  | [] => some []
  | x :: r => match x, pvsF r with
    | .pv p, some ps => some (p :: ps)
    | _, _ => none
def normP : List PV → List PV
  | [] => []
  | p :: r => p.norm :: normP r
def litsC : List Value → Option (List CV)
  | [] => some []
  | v :: r => match v.oneCell', litsC r with
    | true, some cs => some (.pv (cellP v) :: cs)
    | _, _ => none
def tCallee : FV → Option (FuncId × List CV)
  | .pv (.lit (.func (.func f) first cap)) => match first.toList, litsC cap.toList with
    | [], some cs => some (f, cs)
    | _, _ => none
  | .clo f cs => some (f, cs)
  | _ => none
def memI : Nat → List Nat → Bool
  | _, [] => false
  | i, j :: r => if i = j then true else memI i r
def nodupI : List Nat → Bool
  | [] => true
  | i :: r => !memI i r && nodupI r
def mapI (f : Nat → Nat) : List Nat → List Nat
  | [] => []
  | i :: r => f i :: mapI f r
def subI : List Nat → List Nat → Bool
  | [], _ => true
  | i :: r, l => memI i l && subI r l
/-- The two numbers stand for things of one kind and size, of which so many keys speak. -/
def sameKind (i j len : Nat) : Bool := if i / 20000 = j / 20000 then (if len = (if objId i = true then 1 else i / 40000) then true else false) else false
def kindsOK (f : Nat → Nat) : HS → Bool
  | [] => true
  | (i, xs) :: r => sameKind i (f i) xs.length && kindsOK f r
def refsOK (ids : List Nat) : List FV → Bool
  | [] => true
  | x :: r => subI x.refs ids && refsOK ids r
def refsHS (ids : List Nat) : HS → Bool
  | [] => true
  | (_, xs) :: r => refsOK ids xs && refsHS ids r
/-- Those whose number is not among these. -/
def newHS (ids : List Nat) : HS → HS
  | [] => []
  | (i, xs) :: r => if memI i ids = true then newHS ids r else (i, xs) :: newHS ids r
def oldHS (ids : List Nat) : HS → HS
  | [] => []
  | (i, xs) :: r => if memI i ids = true then (i, xs) :: oldHS ids r else oldHS ids r
def localI : List Nat → Bool
  | [] => true
  | i :: r => !handId i && localI r
def HD.ok (D : HD) : Bool :=
  nodupI (idsOf D.hs) && nodupI (idsOf D.hs') && subI (idsOf D.hs) (idsOf D.hs') && nodupI (mapI (assoc D.ρ) (idsOf D.hs')) && kindsOK (assoc D.ρ) D.hs && kindsOK (assoc D.ρ) D.hs' &&
    refsHS (idsOf D.hs') D.hs' && subI D.res.refs (idsOf D.hs') && localI (mapI (assoc D.ρ) (idsOf (newHS (idsOf D.hs) D.hs')))
def chkBox (i : Nat) : Nat → List FV → T → T
  | _, [], t => t
  | o, x :: xs, t => .get (.b i o) fun c => .req (fun _ => c.v.leV x) (chkBox i (o + 1) xs t)
def chkHs (f : Nat → Nat) : HS → T → T
  | [], t => t
  | (i, xs) :: r, t => .get (.al (f i)) fun c => if c.v.isNo = true then .fail else chkBox (f i) 0 (renL f xs) (chkHs f r t)
def chkNew (f : Nat → Nat) : HS → T → T
  | [], t => t
  | (i, _) :: r, t => .get (.al (f i)) fun c => if c.v.isNo = true then chkNew f r t else .fail
def newW (f : Nat → Nat) : HS → List (Key × C)
  | [] => []
  | (i, xs) :: r => ((.al (f i), liveC) :: boxF (f i) 0 (renL f xs)) ++ newW f r
def oldW (f : Nat → Nat) : HS → List (Key × C)
  | [] => []
  | (i, xs) :: r => boxF (f i) 0 (renL f xs) ++ oldW f r
def resW (f : Nat → Nat) (dst : Option Tmp) (D : HD) : List (Key × C) :=
  match dst with
  | some d => [(.t d, ⟨D.res.ren f, D.own, none⟩)]
  | none => []
def argsLe : List FV → List FV → Prop
  | [], [] => True
  | x :: xs, y :: ys => x.leV y ∧ argsLe xs ys
  | _, _ => False
def tHcall (dst : Option Tmp) (xs : List FV) (D : HD) : T :=
  if D.ok = true then .req (fun _ => argsLe xs (renL (assoc D.ρ) D.args)) (chkHs (assoc D.ρ) D.hs (chkNew (assoc D.ρ) (newHS (idsOf D.hs) D.hs')
    (.ret (newW (assoc D.ρ) (newHS (idsOf D.hs) D.hs') ++ (oldW (assoc D.ρ) (oldHS (idsOf D.hs) D.hs') ++ resW (assoc D.ρ) dst D))))) else .fail
/-! ### calls that lists are handed over to, for good -/
def nilParts (ps : List PV) : List (Nat × TypeId × Nat) → Bool
  | [] => true
  | (o, _, _) :: r => (match ps[o]? with | some .nil => true | _ => false) && nilParts ps r
def nilArg (p : TypeId × Nat) (x : FV) : Bool :=
  match x with
  | .pv .nil => true
  | .pv (.agg ps) => match p.2 with
    | 0 => nilParts ps (decO 16 p.1)
    | _ => false
  | _ => false
def giveA : List Operand → List C → List Own → Option (List (Key × C))
  | [], [], _ => some []
  | _ :: xs, _ :: cs, [] => giveA xs cs []
  | _ :: xs, _ :: cs, none :: os => giveA xs cs os
  | x :: xs, c :: cs, some p :: os => match giveA xs cs os with
    | some ws => (match c.own, tmpOf x with
      | some q, some kx => if q.1 = p.1 ∧ q.2 = p.2 ∧ memK' kx ws = false then some (ws ++ [(kx, ⟨c.v, none, c.frm⟩)]) else none
      | _, _ => if nilArg p c.v = true then some ws else none)
    | none => none
  | _, _, _ => none
def tOcall (dst : Option Tmp) (xs : List Operand) (cs : List C) (oin : List Own) (res : PV) (ow : Own) : T :=
  match giveA xs cs oin, dst with
  | some ws, some d => .ret (ws ++ [(.t d, ⟨.pv res, ow, none⟩)])
  | _, _ => .fail
def tCall (P : Program) (τ : Tau) (o : Oper) (c : Call) : T :=
  match c.callee with
  | .value f => opnd f fun cf => match tCallee cf.v with
    | some (fid, caps) => opnds c.args.toList fun cs => (match pvsF (appF (fvs cs) (fvsC caps)) with
      | some ps => .alt (.call fid (normP ps) fun res ow => W o.dst ⟨.pv res, ow, none⟩) (.alt (.hcall fid fun D => tHcall o.dst (appF (fvs cs) (fvsC caps)) D) (match caps with
        | [] => .ocall fid (normP ps) fun oin res ow => tOcall o.dst c.args.toList cs oin res ow
        | _ => .fail))
      | none => .hcall fid fun D => tHcall o.dst (appF (fvs cs) (fvsC caps)) D)
    | none => .fail
  | .invoke _ _ => .fail
  | .builtin b => match b, c.args.toList, c.argTypes.toList with
    | .len, [x], [t] => opnd x fun cx => lenT o.dst τ t cx
    | .append, [x, y], [t, t'] => if t = t' then opnd x fun cx => opnd y fun cy => tAppend τ o.dst t x cx cy else .fail
    | .max, [x, y], _ => opnd x fun cx => opnd y fun cy => tMaxMin o.dst true cx cy
    | .min, [x, y], _ => opnd x fun cx => opnd y fun cy => tMaxMin o.dst false cx cy
    | .clear, [x], [t] => opnd x fun cx => tClear τ o.dst t cx
    | _, _, _ => .fail
def opT (P : Program) (τ : Tau) (o : Oper) : T :=
  match o.op with
  | .move x => opnd x fun c => W o.dst ⟨c.v, none, tmpOf x⟩
  | .assign x => opnd x fun c => match c.own, tmpOf x, o.dst with
    | some p, some kx, some d => .ret [(kx, ⟨c.v, none, c.frm⟩), (.t d, ⟨c.v, some p, none⟩)]
    | _, _, _ => WV o.dst c.v
  | .pick c a b => opnd c fun cc => match cc.v with
    | .pv (.lit (.bool t)) => .ite t (opnd a fun ca => WV o.dst ca.v) (opnd b fun cb => WV o.dst cb.v)
    | _ => .fail
  | .alloc e => match o.dst, τ e with
    | some d, some ti => tBox d (ti.zero.cells.toList.map cellP)
    | _, _ => .fail
  | .box e x => opnd x fun c => match o.dst, c.v with
    | some d, .pv p => match cellsP p with
      | some cs => match structOwn c (tmpOf x) with
        | some (code, kx) => tBoxO d cs kx ⟨c.v, none, c.frm⟩ (ownsFrom 0 cs.length (decO 16 code))
        | none => tBox d cs
      | none => .fail
    | _, _ => .fail
  | .build t parts => opnds (parts.toList.map (·.2)) fun cs => tBuild τ o.dst t (parts.toList.map (·.1)) (parts.toList.map (·.2)) cs
  | .buildSlice t len parts => opnds (parts.toList.map (·.2)) fun cs => tBuildSlice τ o.dst t len (parts.toList.map (·.1)) cs
  | .load t a => opnd a fun c => tLoad τ o.dst t c
  | .store t a x => opnd a fun ca => opnd x fun cx => match o.dst with
    | none => tStore τ t x ca cx
    | some _ => .fail
  | .nilCheck x => opnd x fun c => match c.v with
    | .ptr _ _ => WV o.dst c.v
    | .ept _ _ => WV o.dst c.v
    | .pv (.lit (.func (.func _) _ _)) => WV o.dst c.v
    | .rpt _ _ _ _ => WV o.dst c.v
    | .clo _ _ => WV o.dst c.v
    | _ => .fail
  | .binOp op ty x y _ => opnd x fun cx => opnd y fun cy => tBin P τ o.dst op ty x y cx cy
  | .unOp op _ x => opnd x fun c => tUn P o.dst op c
  | .convert s d x => opnd x fun c => tConv τ o.dst s d c
  | .slice t x lo hi none => opnd x fun cx => match lo, hi with
    | none, none => tSlice τ o.dst t cx none none
    | some l, none => opnd l fun cl => tSlice τ o.dst t cx (some cl) none
    | none, some h => opnd h fun ch => tSlice τ o.dst t cx none (some ch)
    | some l, some h => opnd l fun cl => opnd h fun ch => tSlice τ o.dst t cx (some cl) (some ch)
  | .slice t x none (some h) (some m) => opnd x fun cx => opnd h fun ch => opnd m fun cm => tSlice3 τ o.dst t cx ch cm
  | .fieldAddr t x f => opnd x fun c => tFieldAddr τ o.dst t f c
  | .field t x f => opnd x fun c => tField τ o.dst t f c
  | .indexAddr t x ix => opnd x fun cx => opnd ix fun ci => tIndexAddr τ o.dst t cx ci
  | .index t x ix => opnd x fun cx => opnd ix fun ci => tIndex τ o.dst t cx ci
  | .extract x ix => opnd x fun c => match c.v with
    | .pv (.tup vs) => match vs[ix]? with
      | some p => WP o.dst p
      | none => .fail
    | .tupf vs => match vs[ix]? with
      | some p => WV o.dst p.fv
      | none => .fail
    | _ => .fail
  | .call c => tCall P τ o c
  | .makeFunc fn first caps => match fn, first.toList with
    | .func f, [] => opnds caps.toList fun cs => (match capsOf cs with
      | some [] => WP o.dst (.lit (.func (.func f) #[] #[]))
      | some vs => WV o.dst (.clo f vs)
      | none => .fail)
    | _, _ => .fail
  | .makeMap t r => match o.dst, τ t, r with
    | some d, some _, none => tNew d (.ents [] 0) .mp
    | _, _, _ => .fail
  | .insert t m k x => opnd m fun cm => opnd k fun ck => opnd x fun cx => tMapUp τ o.dst t cm ck cx
  | .mapUpdate t m k x => opnd m fun cm => opnd k fun ck => opnd x fun cx => tMapUp τ o.dst t cm ck cx
  | .lookup t m k ok => opnd m fun cm => opnd k fun ck => tLookup τ o.dst t ok cm ck
  | .range t x => opnd x fun c => tRange τ o.dst t c
  | .entry x => opnd x fun c => tEntry o.dst c
  | _ => .fail

/-! ### the state, as it is computed with -/
structure St where
  tmps : List C
  boxes : List (Nat × List C)
def unC : C := ⟨.un, none, none⟩
def getB : List (Nat × List C) → Nat → Option (List C)
  | [], _ => none
  | (j, cs) :: r, i => if j = i then some cs else getB r i
def setB : List (Nat × List C) → Nat → Nat → C → List (Nat × List C)
  | [], _, _, _ => []
  | (j, cs) :: r, i, o, c => if j = i then (j, cs.set o c) :: r else (j, cs) :: setB r i o c
def getL : List C → Nat → C
  | [], _ => unC
  | c :: _, 0 => c
  | _ :: cs, n + 1 => getL cs n
def St.get (s : St) : Key → C
  | .t i => getL s.tmps i
  | .b i o => match getB s.boxes i with
    | some cs => getL cs o
    | none => unC
  | .al i => match getB s.boxes i with
    | some _ => liveC
    | none => unC
end Go.Proofs.YtbjfmkmaghapgaaGreatDoor.B
