/- Operations that make memory or write it: what is to be shown of each, and that this suffices. -/
import Derived.Test.YthfgpdjplknleaaGreatDoorSe9
namespace Go.SE
open Go.RowKit

def addE (s : St) (obj : EO) : St := { s with H := s.H ++ [⟨obj, none⟩] }

/-- Zero cells, n of them. -/
def zfill (z : Array Value) (n : Nat) : List Value := (List.range n).map fun i => z[i % z.size]!
/-- Many cells: only what they are like is said. -/
def zK (z : Array Value) (n : Nat) (F : List Value → Prop) : Prop :=
  Br (Nat.blt 64 n && Nat.blt 0 z.size) (∀ xs : List Value, xs.length = n → (∀ (j : Nat) (v : Value), xs[j]? = some v → z[j % z.size]? = some v) → F xs) (F (zfill z n))
theorem zK_sound {z : Array Value} {n : Nat} {F : List Value → Prop} (h : zK z n F) : F (zfill z n) := by
  refine h.elim (fun hc h => h _ (by simp [zfill]) fun j v hj => ?_) (fun _ h => h)
  simp only [Bool.and_eq_true, Nat.blt_eq] at hc
  simp only [zfill, List.getElem?_map, Option.map_eq_some_iff] at hj
  obtain ⟨k, hk, rfl⟩ := hj
  have : k = j := by
    rw [List.getElem?_range] at hk
    · cases hk; rfl
    · have := (List.getElem?_eq_some_iff.1 hk).1
      simpa using this
  subst this
  have hlt : k % z.size < z.size := Nat.mod_lt _ hc.2
  rw [Array.getElem!_eq_getD, Array.getD_eq_getD_getElem?, Array.getElem?_eq_getElem hlt]
  rfl

def one (x : SV) : Bool :=
  match x with
  | .v x => x.oneCell'
  | .agg _ | .tup _ | .junk => false
  | _ => true
theorem one_den {e : Env} {x : SV} (h : one x = true) : (den e x).oneCell' = true ∧ isJunk x = false := by
  cases x <;> simp_all [one, den, Value.oneCell', isJunk]

def mapV : List SV → Option (List Value)
  | [] => some []
  | x :: xs => match vOf x, mapV xs with
    | some v, some vs => some (v :: vs)
    | _, _ => none
theorem mapV_den {e : Env} : ∀ {l : List SV} {vs : List Value}, mapV l = some vs → l.map (den e) = vs ∧ ∀ x ∈ l, isJunk x = false
  | [], vs, h => by simp only [mapV, Option.some.injEq] at h; subst h; exact ⟨rfl, fun x h => by cases h⟩
  | x :: xs, vs, h => by
    simp only [mapV] at h
    split at h
    · rename_i v vs' hv hvs
      simp only [Option.some.injEq] at h
      subst h
      obtain ⟨h1, h2⟩ := mapV_den (e := e) hvs
      have hx : x = .v v := by cases x <;> simp_all [vOf]
      subst hx
      exact ⟨by simp [den, h1], fun y hy => by
        cases hy with
        | head => rfl
        | tail _ hm => exact h2 y hm⟩
    · cases h

/-- A list with some places written anew. -/
def splice (xs : List Value) (off : Nat) (vs : List Value) : List Value :=
  match vs with
  | [v] => xs.set off v
  | vs => xs.take off ++ vs ++ xs.drop (off + vs.length)
theorem splice_eq {xs : List Value} {off : Nat} {vs : List Value} (h : off + vs.length ≤ xs.length) : splice xs off vs = xs.take off ++ vs ++ xs.drop (off + vs.length) := by
  unfold splice
  split
  · rename_i v
    simp only [List.length_cons, List.length_nil] at h
    rw [List.set_eq_take_append_cons_drop, if_pos (by omega)]
    simp
  · rfl

/-- A store. -/
def sStore (P : Program) (s : St) (t : TypeId) (addr x : SV) (K : St → Prop) : Prop :=
  match svCells x, szT P t with
  | some l, some z => if Nat.beq l.length z && l.all one then
      match addr with
      | .ptr id off => match s.H[id]? with
        | some ⟨.cells cs el, nm⟩ => if Nat.ble (off + z) cs.length then K { s with H := s.H.set id ⟨.cells (setAt cs off l) el, nm⟩ } else False
        | some ⟨.vec xs el, nm⟩ => match mapV l with
          | some vs => off + vs.length ≤ xs.length ∧ K { s with H := s.H.set id ⟨.vec (splice xs off vs) el, nm⟩ }
          | none => False
        | some ⟨.row xs sz el, nm⟩ => match mapV l with
          | some vs => off + vs.length ≤ xs.length ∧ 0 < vs.length ∧ K { s with H := s.H.set id ⟨.row (splice xs off vs) sz el, nm⟩ }
          | none => False
        | _ => False
      | .sptr id off => match s.H[id]? with
        | some ⟨.cells cs el, nm⟩ => match mapV l, mapV cs with
          | some vs, some xs => off + vs.length ≤ xs.length ∧ K { s with H := s.H.set id ⟨.vec (splice xs off vs) el, nm⟩ }
          | _, _ => False
        | some ⟨.vec xs el, nm⟩ => match mapV l with
          | some vs => off + vs.length ≤ xs.length ∧ K { s with H := s.H.set id ⟨.vec (splice xs off vs) el, nm⟩ }
          | none => False
        | some ⟨.row xs sz el, nm⟩ => match mapV l with
          | some vs => off + vs.length ≤ xs.length ∧ 0 < vs.length ∧ K { s with H := s.H.set id ⟨.row (splice xs off vs) sz el, nm⟩ }
          | none => False
        | _ => False
      | _ => False
    else False
  | _, _ => False

/-- What a slice is to which append may add: its entry if it has one, its length, what it holds. -/
def rowOf (s : St) (x : SV) (sz : Nat) (el : TypeId) : Option (Option Nat × Nat × List Value) :=
  match x with
  | .v (.slice none 0 0) => some (none, 0, [])
  | .rsl id len => match s.H[id]? with
    | some ⟨.row xs sz' el', _⟩ => if Nat.beq sz sz' && Nat.beq el el' then some (some id, len, xs) else none
    | _ => none
  | .xsl id 0 len cap => match s.H[id]? with
    | some ⟨.cells cs el', _⟩ => match mapV cs with
      | some xs => if Nat.beq len cap && (Nat.beq el el' && (Nat.beq xs.length (len * sz) && Nat.ble len 16777216)) then some (some id, len, xs) else none
      | none => none
    | _ => none
  | _ => none

/-- What is appended. -/
def srcOf (P : Program) (s : St) (xt : TypeId) (x : SV) (sz : Nat) (K : Nat → List Value → Prop) : Prop :=
  match P.underlying xt, x with
  | some (.slice _), .v (.slice a m _) => ∃ ys : List Value, ys.length = m * sz ∧ (a = none → m = 0) ∧ (∀ (j : Nat) (v : Value), ys[j]? = some v → atI s.I a j = some v) ∧ (∀ v ∈ ys, v.oneCell' = true) ∧ K m ys
  | some (.slice _), .xsl id off len _ => match s.H[id]? with
    | some ⟨.cells cs _, _⟩ => match mapV ((cs.drop off).take (len * sz)) with
      | some ys => if Nat.beq ys.length (len * sz) && ys.all (·.oneCell') then K len ys else False
      | none => False
    | some ⟨.vec xs _, _⟩ => off + len * sz ≤ xs.length ∧ (∀ v ∈ (xs.drop off).take (len * sz), v.oneCell' = true) ∧ K len ((xs.drop off).take (len * sz))
    | _ => False
  | some (.slice _), .rsl id len => match s.H[id]? with
    | some ⟨.row xs _ _, _⟩ => len * sz ≤ xs.length ∧ (∀ v ∈ xs.take (len * sz), v.oneCell' = true) ∧ K len (xs.take (len * sz))
    | _ => False
  | some .string, .v (.string q) => sz = 1 ∧ K q.size (q.data.toList.map fun b => Value.int .u8 b.toNat)
  | _, _ => False

def sAppend (P : Program) (s : St) (t xt : TypeId) (x y : SV) (K : SV → St → Prop) : Prop :=
  match P.underlying t with
  | some (.slice el) => match P.info? el with
    | some i => match i.zero with
      | some z => if Nat.beq z.cells.size i.size && Nat.blt 0 i.size then
          match rowOf s x i.size el with
          | some (some id, n, xs) => srcOf P s xt y i.size fun m ys =>
              xs.length = n * i.size ∧ n + m ≤ 9223372036854775807 ∧ (n + m) * i.bytes ≤ 140737488355328 ∧
              if s.marks.all (fun m => !(Nat.beq m id)) then
                K (.rsl id (n + m)) { junkS id s with H := (s.H.map (junkE id)).set id ⟨.row (xs ++ ys) i.size el, none⟩ } else False
          | some (none, _, _) => srcOf P s xt y i.size fun m ys => m ≤ 9223372036854775807 ∧ m * i.bytes ≤ 140737488355328 ∧
              if wfSt s then K (.rsl s.H.length m) (addE s (.row ys i.size el)) else False
          | none => False
        else False
      | none => False
    | none => False
  | _ => False

/-- Operations that make memory or write it. -/
def seE (P : Program) (s : St) (o : Op) (K : SV → St → Prop) : Prop :=
  match o with
  | .box el x => match svCells (ev s x) with
    | some l => if wfSt s && belowL s.H.length l then K (.ptr s.H.length 0) (addE s (.cells l el)) else False
    | none => False
  | .alloc el => match zeroT P el with
    | some z => if wfSt s then K (.ptr s.H.length 0) (addE s (.cells (z.cells.toList.map .v) el)) else False
    | none => False
  | .buildSlice t len ps => match P.underlying t with
    | some (.slice el) => match szT P el, zeroT P el with
      | some n, some z => if Nat.ble (len * n) 16777216 then
          match fillS (fun i => some (i * n, n)) ((zfill (if Nat.beq (len * n) 0 then #[] else z.cells) (len * n)).map .v) (ps.toList.map fun x => (x.1, ev s x.2)) with
          | some r => if wfSt s && belowL s.H.length r then K (.xsl s.H.length 0 len len) (addE s (.cells r el)) else False
          | none => False
        else False
      | _, _ => False
    | _ => False
  | .makeSlice t l c => match P.underlying t, ev s l, ev s c with
    | some (.slice el), .v (.int _ l'), .v (.int _ c') => match P.info? el with
      | some i => match i.zero with
        | some z => 0 ≤ l' ∧ l' ≤ c' ∧ c' ≤ 281474976710656 ∧ (i.bytes : Int) * c' ≤ 281474976710656 ∧
            if wfSt s && Nat.blt 0 i.size then zK z.cells (l'.toNat * i.size) fun xs => K (.rsl s.H.length l'.toNat) (addE s (.row xs i.size el)) else False
        | none => False
      | none => False
    | _, _, _ => False
  | .store t addr x => sStore P s t (ev s addr) (ev s x) fun s' => K (.v undef) s'
  | .convert src dst x => match P.underlying src, P.underlying dst, ev s x with
    | some .string, some (.slice el), .v (.string q) => match P.underlying el with
      | some (.int .u8) => q.size ≤ 4611686018427387904 ∧ ∀ (a : Option Addr) (cp : Nat) (I' : Mem), s.I.le I' → a.isSome = true → q.size ≤ cp → cp ≤ maxLen →
          (∀ (j : Nat) (b : UInt8), q.data.toList[j]? = some b → atI I' a j = some (.int .u8 b.toNat)) → K (.v (.slice a q.size cp)) { s with I := I' }
      | _ => False
    | _, _, _ => False
  | .call c => match c.callee, c.args.toList, c.argTypes.toList with
    | .builtin .append, [x, y], [t, xt] => sAppend P s t xt (ev s x) (ev s y) K
    | _, _, _ => False
  | _ => False

/-- The last map among what is owned. -/
def mapEnt : Nat → List Ent → Option (Nat × Nat × Array MapEntry × Nat) → Option (Nat × Nat × Array MapEntry × Nat)
  | _, [], acc => acc
  | i, ⟨.raw (.map es clk), some b⟩ :: r, _ => mapEnt (i + 1) r (some (i, b, es, clk))
  | i, _ :: r, acc => mapEnt (i + 1) r acc
theorem mapEnt_at : ∀ {l : List Ent} {i : Nat} {acc : Option (Nat × Nat × Array MapEntry × Nat)} {id b : Nat} {es : Array MapEntry} {clk : Nat}, mapEnt i l acc = some (id, b, es, clk) →
    acc = some (id, b, es, clk) ∨ ∃ k, id = i + k ∧ l[k]? = some ⟨.raw (.map es clk), some b⟩
  | [], i, acc, id, b, es, clk, h => .inl h
  | x :: r, i, acc, id, b, es, clk, h => by
    unfold mapEnt at h
    split at h
    · rename_i hx; cases hx
    · rename_i hx
      injection hx with h1 h2
      subst h1; subst h2
      rcases mapEnt_at h with h | ⟨k, h3, h4⟩
      · simp only [Option.some.injEq, Prod.mk.injEq] at h
        obtain ⟨rfl, rfl, rfl, rfl⟩ := h
        exact .inr ⟨0, rfl, rfl⟩
      · exact .inr ⟨k + 1, by omega, by simpa using h4⟩
    · rename_i hx
      injection hx with h1 h2
      subst h2
      rcases mapEnt_at h with h | ⟨k, h3, h4⟩
      · exact .inl h
      · exact .inr ⟨k + 1, by omega, by simpa using h4⟩

/-- The entries that an operation writes. -/
def idOf : SV → List Nat
  | .ptr id _ | .sptr id _ | .rsl id _ | .xsl id _ _ _ => [id]
  | _ => []
def modsOf (s : St) (o : Op) : List Nat :=
  match o with
  | .store _ ad _ => idOf (ev s ad)
  | .call c => match c.callee, c.args.toList with
    | .builtin .append, x :: _ => idOf (ev s x)
    | _, _ => []
  | .next x _ => idOf (ev s x)
  | .insert _ _ _ _ | .mapUpdate _ _ _ _ => match mapEnt 0 s.H none with
    | some (id, _) => [id]
    | none => []
  | _ => []

/-- What a step that writes the entries 'mods' leaves as it was. -/
structure Evo (gm : Bool) (mods : List Nat) (s : St) (e : Env) (w : World) (s' : St) (e' : Env) (w' : World) : Prop where
  heap : ∀ b, b < w.heap.size → (gm = true → s.G b = none) → (∀ (id : Nat) (x : Ent), id ∈ mods → s.H[id]? = some x → alive x.obj = true → e.nil id = false → b ≠ e.blk id) → w'.heap[b]? = w.heap[b]?
  size : w.heap.size ≤ w'.heap.size
  same : ∀ id, id < s.H.length → id ∉ mods → e.blk id = e'.blk id ∧ e.cap id = e'.cap id ∧ e.nil id = e'.nil id
  mod : ∀ (id : Nat) (x' : Ent), id < s.H.length → id ∈ mods → s'.H[id]? = some x' → alive x'.obj = true → e'.nil id = false → w.heap.size ≤ e'.blk id ∨
    ∃ (j : Nat) (x : Ent), j ∈ mods ∧ s.H[j]? = some x ∧ alive x.obj = true ∧ e.nil j = false ∧ e'.blk id = e.blk j
  new : ∀ (id : Nat) (x' : Ent), s.H.length ≤ id → s'.H[id]? = some x' → alive x'.obj = true → e'.nil id = false → w.heap.size ≤ e'.blk id ∨
    ∃ (j : Nat) (x : Ent), j ∈ mods ∧ s.H[j]? = some x ∧ alive x.obj = true ∧ e.nil j = false ∧ e'.blk id = e.blk j
  len : s.H.length ≤ s'.H.length
  live : ∀ (id : Nat) (x' : Ent), id < s.H.length → s'.H[id]? = some x' → alive x'.obj = true → ∃ x, s.H[id]? = some x ∧ alive x.obj = true
  gN : ∀ b, b < w.heap.size → s.G b = none → s'.G b = none
  gEq : gm = false → s'.G = s.G
  rd : ∀ b, b < w.heap.size → (gm = true → s.G b = none) → s.I b = none → s'.I b = none ∨ ∃ (j : Nat) (x : Ent), s.H[j]? = some x ∧ alive x.obj = true ∧ e.nil j = false ∧ b = e.blk j

/-- Nothing but the symbolic side has changed, and no entry has come to life. -/
theorem Evo.still {mods : List Nat} {s s' : St} {e : Env} {w : World} (hl : s.H.length = s'.H.length)
    (hv : ∀ (id : Nat) (x' : Ent), s'.H[id]? = some x' → alive x'.obj = true → ∃ x, s.H[id]? = some x ∧ alive x.obj = true)
    (hr : ∀ b, b < w.heap.size → s.I b = none → s'.I b = none ∨ ∃ (j : Nat) (x : Ent), s.H[j]? = some x ∧ alive x.obj = true ∧ e.nil j = false ∧ b = e.blk j) (hg : s'.G = s.G) : Evo false mods s e w s' e w := by
  refine ⟨fun _ _ _ _ => rfl, Nat.le_refl _, fun _ _ _ => ⟨rfl, rfl, rfl⟩, fun id x' _ hm h1 h2 hn => ?_, fun id x' h1 h2 _ _ => ?_, Nat.le_of_eq hl, fun id x' _ h1 h2 => hv id x' h1 h2, fun _ _ h => by rw [hg]; exact h, fun _ => hg, fun b hb _ h => hr b hb h⟩
  · obtain ⟨x, hx, hal⟩ := hv id x' h1 h2
    exact .inr ⟨id, x, hm, hx, hal, hn, rfl⟩
  · have := (List.getElem?_eq_some_iff.1 h2).1
    omega

theorem evo_add {s : St} {e : Env} {w w' : World} {b cp : Nat} {nl : Bool} {obj : EO} (hold : ∀ k, k < w.heap.size → w'.heap[k]? = w.heap[k]?) (hsz : w.heap.size ≤ w'.heap.size)
    (hb : nl = false → w.heap.size ≤ b) : Evo false [] s e w { s with H := s.H ++ [⟨obj, none⟩] } (e.upd s.H.length b cp nl) w' := by
  refine ⟨fun b hb _ _ => hold b hb, hsz, fun id hid _ => upd_ne (Nat.ne_of_lt hid), fun _ _ _ h => by simp at h, fun id x' h1 h2 _ hn => .inl ?_, by simp, fun id x' hid h1 h2 => ?_, fun _ _ h => h, fun _ => rfl, fun _ _ _ h => .inl h⟩
  · have h2 := (List.getElem?_eq_some_iff.1 h2).1
    have : id = s.H.length := by simp only [List.length_append, List.length_cons, List.length_nil] at h2; omega
    subst this
    rw [upd_eq.2.2] at hn
    rw [upd_eq.1]
    exact hb hn
  · simp only [List.getElem?_append, hid, if_true] at h1
    exact ⟨x', h1, h2⟩
theorem evo_push {s : St} {e : Env} {w w' : World} {cp : Nat} {obj : EO} {o : Obj} (hheap : w'.heap = w.heap.push o) :
    Evo false [] s e w { s with H := s.H ++ [⟨obj, none⟩] } (e.upd s.H.length w.heap.size cp false) w' :=
  evo_add (fun b hb => by rw [hheap, Array.getElem?_push, if_neg (Nat.ne_of_lt hb)]) (by rw [hheap]; simp) (fun _ => Nat.le_refl _)
theorem evo_store {mods : List Nat} {s : St} {e : Env} {w w' : World} {id : Nat} {x y : Ent} (hm : id ∈ mods) (hx : s.H[id]? = some x) (hal : alive x.obj = true) (hnil : e.nil id = false)
    (hsz : w.heap.size = w'.heap.size) (hold : ∀ b, b ≠ e.blk id → w'.heap[b]? = w.heap[b]?) : Evo false mods s e w { s with H := s.H.set id y } e w' := by
  have live : ∀ (j : Nat) (z : Ent), (s.H.set id y)[j]? = some z → alive z.obj = true → ∃ x, s.H[j]? = some x ∧ alive x.obj = true := by
    intro j z h1 h2
    rcases getElem?_set' h1 with ⟨rfl, _, _⟩ | ⟨_, h1⟩
    · exact ⟨x, hx, hal⟩
    · exact ⟨z, h1, h2⟩
  refine ⟨fun b hb _ h => hold b (h id x hm hx hal hnil), Nat.le_of_eq hsz, fun _ _ _ => ⟨rfl, rfl, rfl⟩, fun j z _ hj h1 h2 hn => ?_, fun j z h1 h2 _ _ => ?_, by simp, fun j z _ h1 h2 => live j z h1 h2, fun _ _ h => h, fun _ => rfl, fun _ _ _ h => .inl h⟩
  · obtain ⟨x', hx', hal'⟩ := live j z h1 h2
    exact .inr ⟨j, x', hj, hx', hal', hn, rfl⟩
  · have := (List.getElem?_eq_some_iff.1 h2).1
    simp only [List.length_set] at this
    omega
theorem evo_grow {mods : List Nat} {s : St} {e e' : Env} {w w' : World} {id : Nat} {x y : Ent} (hm : id ∈ mods) (hx : s.H[id]? = some x) (hal : alive x.obj = true)
    (hag : ∀ i, i ≠ id → e.blk i = e'.blk i ∧ e.cap i = e'.cap i ∧ e.nil i = e'.nil i) (hsz : w.heap.size ≤ w'.heap.size)
    (hold : ∀ b, b < w.heap.size → (e.nil id = false → b ≠ e.blk id) → w'.heap[b]? = w.heap[b]?)
    (hnew : e'.nil id = false → (e.nil id = false ∧ e'.blk id = e.blk id) ∨ w.heap.size ≤ e'.blk id) :
    Evo false mods s e w { junkS id s with H := (s.H.map (junkE id)).set id y } e' w' := by
  have live : ∀ (j : Nat) (z : Ent), ((s.H.map (junkE id)).set id y)[j]? = some z → alive z.obj = true → ∃ x, s.H[j]? = some x ∧ alive x.obj = true := by
    intro j z h1 h2
    rcases getElem?_set' h1 with ⟨rfl, _, _⟩ | ⟨_, h1⟩
    · exact ⟨x, hx, hal⟩
    · rw [List.getElem?_map, Option.map_eq_some_iff] at h1
      obtain ⟨z0, h3, rfl⟩ := h1
      exact ⟨z0, h3, (junkE_alive id z0).1 ▸ h2⟩
  refine ⟨fun b hb _ h => hold b hb (fun hn => h id x hm hx hal hn), hsz, fun j _ hj => hag j (fun h => hj (h ▸ hm)), fun j z _ hj h1 h2 hn => ?_, fun j z h1 h2 _ _ => ?_, by simp, fun j z _ h1 h2 => live j z h1 h2, fun _ _ h => h, fun _ => rfl, fun _ _ _ h => .inl h⟩
  · by_cases h : j = id
    · subst h
      rcases hnew hn with ⟨h3, h4⟩ | h3
      · exact .inr ⟨j, x, hm, hx, hal, h3, h4⟩
      · exact .inl h3
    · obtain ⟨a1, _, a3⟩ := hag j h
      obtain ⟨x', hx', hal'⟩ := live j z h1 h2
      exact .inr ⟨j, x', hj, hx', hal', a3.trans hn, a1.symm⟩
  · have := (List.getElem?_eq_some_iff.1 h2).1
    simp only [List.length_set, List.length_map] at this
    omega

/-- The operation has been carried out. -/
def EffOk (P : Program) (o : Op) (c : Ctx) (s : St) (a : Act) (w : World) (sv : SV) (s' : St) (e : Env) : Prop :=
  ∃ (e' : Env) (w' : World) (x : Value), (∀ (d : Option Tmp) (ty : TypeId) (pos : String) (af : Array Edge) (g : Option (Nat × Bool)),
      (execOp a.eval ⟨d, o, ty, pos, af, g⟩).run P w = .ok (.value x) w' ∨ ((execOp a.eval ⟨d, o, ty, pos, af, g⟩).run P w = .ok .skip w' ∧ x = undef)) ∧
    Sat c e' s' w' ∧ SatA e' s' a ∧ s'.tm.length = s.tm.length ∧ s.I.le s'.I ∧ (isJunk sv = true ∨ x = den e' sv) ∧ Evo false (modsOf s o) s e w s' e' w'

end Go.SE
