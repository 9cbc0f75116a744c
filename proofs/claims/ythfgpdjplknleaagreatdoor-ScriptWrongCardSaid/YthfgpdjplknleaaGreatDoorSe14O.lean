/- Operations, and regions whose order is the text's. -/
import Derived.Test.YthfgpdjplknleaaGreatDoorSe14I
namespace Go.SE
open Go.RowKit

/-- What is said beside a call (by the temporary that takes its answer): it may write what is owned but not looked into; entries are lent to it. -/
inductive CK where
  | g
  | sym
  | ro
  | hd
  | st
  | val (b : Bool)
  | lend (ids : List Nat) (res : RSh) (ents : List ESh)
  /-- Lent is what these temporaries name. -/
  | lendT (ts : List Nat) (res : RSh) (ents : List ESh)
  /-- The answer is one of these integers: each is walked by itself. -/
  | cs (l : List Int)
def ckOf : List (Nat × CK) → Option Tmp → Option CK
  | _, none => none
  | [], _ => none
  | (i, k) :: r, some d => bif Nat.beq i d then some k else ckOf r (some d)

inductive Kd where
  | quiet | eff | call | map
def kindOf (P : Program) : Op → Kd
  | .box _ _ | .alloc _ | .buildSlice _ _ _ | .makeSlice _ _ _ | .store _ _ _ => .eff
  | .makeMap _ _ | .insert _ _ _ _ | .mapUpdate _ _ _ _ | .range _ _ | .next _ _ | .entry _ => .map
  | .convert _ dst _ => match P.underlying dst with
    | some (.slice _) => .eff
    | _ => .quiet
  | .call c => match c.callee with
    | .builtin .append => .eff
    | .builtin _ => .quiet
    | _ => .call
  | _ => .quiet

/-- A load whose place is not known: known cells become values (said beside it: '.sym'). -/
def symS (s : St) (o : Op) : St :=
  match o with
  | .load _ x => match idOf (ev s x) with
    | [id] => match s.H[id]? with
      | some ⟨.cells cs el, nm⟩ => match mapV cs with
        | some xs => { s with H := s.H.set id ⟨.vec xs el, nm⟩ }
        | none => s
      | _ => s
    | _ => s
  | _ => s
/-- How a quiet operation reads: as it stands; known cells as values; own memory that is not looked into. -/
inductive QK where
  | plain | sym | g
def qkOf : Option CK → QK
  | some .sym => .sym
  | some .g => .g
  | _ => .plain
/-- Is an operation a store into own memory that is not looked into (said beside the address)? -/
def stOf (A : List (Nat × CK)) (o : Op) : Option (TypeId × Operand × Operand) :=
  match o with
  | .store t (.tmp d) x => match ckOf A (some d) with
    | some .st => some (t, .tmp d, x)
    | _ => none
  | _ => none
theorem stOf_eq {A : List (Nat × CK)} {o : Op} {t : TypeId} {ad x : Operand} (h : stOf A o = some (t, ad, x)) : o = .store t ad x := by
  unfold stOf at h
  split at h
  · split at h
    · cases h; rfl
    · cases h
  · cases h

def oneOf (i : Int) : List Int → Prop
  | [] => False
  | [j] => i = j
  | j :: r => i = j ∨ oneOf i r
def casesL (i : Int) (F : Int → Prop) : List Int → Prop
  | [] => True
  | [j] => i = j → F j
  | j :: r => (i = j → F j) ∧ casesL i F r
theorem casesL_at {i : Int} {F : Int → Prop} : ∀ {l : List Int}, oneOf i l → casesL i F l → F i
  | [], h, _ => h.elim
  | [j], h, hc => by
    have h : i = j := h
    subst h; exact hc rfl
  | j :: k :: r, h, hc => by
    rcases h with h | h
    · subst h; exact hc.1 rfl
    · exact casesL_at h hc.2
def caseK (c : Option CK) (sv : SV) (F : SV → Prop) : Prop :=
  match c with
  | some (.cs l) => match sv with
    | .v (.int k i) => oneOf i l ∧ casesL i (fun j => F (.v (.int k j))) l
    | _ => False
  | _ => F sv
theorem caseK_at {c : Option CK} {sv : SV} {F : SV → Prop} (h : caseK c sv F) : F sv := by
  unfold caseK at h
  split at h
  · split at h
    · exact casesL_at (F := fun j => F (.v (.int _ j))) h.1 h.2
    · exact h.elim
  · exact h
/-- What these temporaries name. -/
def refsTs (s : St) : List Nat → List Nat
  | [] => []
  | t :: r => match s.tm[t]? with
    | some sv => refsOf sv ++ refsTs s r
    | none => refsTs s r
/-- One operation. -/
def seO (P : Program) (A : List (Nat × CK)) (s : St) (o : Oper) (K : St → Prop) : Prop :=
  match kindOf P o.op with
  | .quiet => match qkOf (ckOf A o.dst) with
    | .plain => seQ P s o.op fun sv => caseK (ckOf A o.dst) sv fun sv => K (putS s o.dst sv)
    | .sym => seQ P (symS s o.op) o.op fun sv => K (putS (symS s o.op) o.dst sv)
    | .g => seQ P { s with I := s.G } o.op fun sv => K (putS s o.dst sv)
  | .eff => match stOf A o.op with
    | none => match qkOf (ckOf A o.dst) with
      | .sym => seEV P s o.op fun sv s' => K (putS s' o.dst sv)
      | _ => seE P s o.op fun sv s' => K (putS s' o.dst sv)
    | some (t, ad, x) => seSG P s t (ev s ad) (ev s x) fun s' => K (putS s' o.dst (.v undef))
  | .map => seM P s o.op fun sv s' => K (putS s' o.dst sv)
  | .call => match o.op with
    | .call c => match ckOf A o.dst with
      | some .g => seCG P s c o.type fun sv s' => K (putS s' o.dst sv)
      | some (.lend ids res ents) => seLend P s c ids res ents fun sv s' => K (putS s' o.dst sv)
      | some (.lendT ts res ents) => seLend P s c (refsTs s ts) res ents fun sv s' => K (putS s' o.dst sv)
      | some .sym => False
      | some .hd => False
      | some .st => False
      | some (.val _) => False
      | some (.cs _) => False
      | some .ro => seRO P s c o.type fun sv s' => K (putS s' o.dst sv)
      | none => seC P s c o.type fun sv s' => K (putS s' o.dst sv)
    | _ => False

/-- The entries that an operation may write. -/
def modsC (P : Program) (A : List (Nat × CK)) (s : St) (o : Oper) : List Nat :=
  match kindOf P o.op with
  | .call => match ckOf A o.dst with
    | some (.lend ids _ _) => ids
    | some (.lendT ts _ _) => refsTs s ts
    | _ => modsOf s o.op
  | _ => modsOf s o.op

/-- What is handed over before an operation (said beside it: '.hd'; what is stored in memory that is not looked into). -/
def hdIds (A : List (Nat × CK)) (s : St) (o : Oper) : List Nat :=
  match ckOf A o.dst with
  | some .hd => match o.op with
    | .buildSlice _ _ els => refsOfL (els.toList.map fun p => ev s p.2)
    | .convert _ _ x => refsOfL [ev s x]
    | _ => []
  | _ => match stOf A o.op with
    | some (_, _, x) => refsOfL [ev s x]
    | none => []

/-- The operations of a region, one by one. -/
def seOps (P : Program) (A : List (Nat × CK)) (ops : Array Oper) : List Oper → St → (St → Prop) → Prop
  | [], s, K => K s
  | o :: r, s, K => match o.guard with
    | none => hand P 100 (hdIds A s o) s fun s => seO P A s o fun s' => seOps P A ops r s' K
    | some (j, want) => match (ops[j]?).bind (·.dst) with
      | some d => match s.tm[d]? with
        | some (.v (.bool t)) => Br t
            (match want with
              | true => seO P A { s with tm := s.tm.set d (.v (.bool true)) } o fun s' => seOps P A ops r s' K
              | false => seOps P A ops r (putS { s with tm := s.tm.set d (.v (.bool true)) } o.dst (.v undef)) K)
            (match want with
              | false => seO P A { s with tm := s.tm.set d (.v (.bool false)) } o fun s' => seOps P A ops r s' K
              | true => seOps P A ops r (putS { s with tm := s.tm.set d (.v (.bool false)) } o.dst (.v undef)) K)
        | some (.v (.tuple _)) => seOps P A ops r (putS s o.dst (.v undef)) K
        | _ => False
      | none => False


section
variable {P : Program} {c : Ctx} {e : Env} {s : St} {w : World} {a : Act} {r : Option Nat}

theorem Evo.more {s' : St} {e' : Env} {w' : World} (h : Evo true [] s e w s' e' w') (mods : List Nat) : Evo true mods s e w s' e' w' := by
  refine ⟨fun b hb hg _ => h.heap b hb hg (fun _ _ h => by simp at h), h.size, fun id hid _ => h.same id hid (by simp), fun id x' hid hm h1 h2 hn => ?_, fun id x' h1 h2 h3 hn => ?_, h.len, h.live, h.gN, h.gEq, h.rd⟩
  · obtain ⟨a1, _, a3⟩ := h.same id hid (by simp)
    obtain ⟨x, hx, hal⟩ := h.live id x' hid h1 h2
    exact .inr ⟨id, x, hm, hx, hal, a3.trans hn, a1.symm⟩
  · rcases h.new id x' h1 h2 h3 hn with h4 | ⟨j, _, hj, _⟩
    · exact .inl h4
    · simp at hj

theorem kindOf_defer {o : Op} {cl : Call} (h : o = .defer cl) : kindOf P o = .quiet := by subst h; rfl

theorem putS_H (s : St) (d : Option Tmp) (sv : SV) : (putS s d sv).H = s.H := by cases d <;> rfl
theorem putS_G (s : St) (d : Option Tmp) (sv : SV) : (putS s d sv).G = s.G := by cases d <;> rfl
theorem Evo.put {gm : Bool} {mods : List Nat} {s s' : St} {e e' : Env} {w w' : World} (h : Evo gm mods s e w s' e' w') (d : Option Tmp) (sv : SV) : Evo gm mods s e w (putS s' d sv) e' w' :=
  ⟨h.heap, h.size, h.same, by rw [putS_H]; exact h.mod, by rw [putS_H]; exact h.new, by rw [putS_H]; exact h.len, by rw [putS_H]; exact h.live, by rw [putS_G]; exact h.gN, by rw [putS_G]; exact h.gEq, by rw [putS_I]; exact h.rd⟩
theorem SatX.put (hS : SatX c e s w) (d : Option Tmp) (sv : SV) : SatX c e (putS s d sv) w :=
  ⟨hS.toSat.put d sv, by rw [putS_G]; exact hS.gIn, by rw [putS_G, putS_I]; exact hS.gI, by rw [putS_G, putS_H]; exact hS.gOwn⟩

theorem mapV_holds {e : Env} {id : Nat} {h : Nat → Option Obj} {cs : List SV} {xs : List Value} {el : TypeId} (hx : mapV cs = some xs) (H : holds e id h (.cells cs el)) : holds e id h (.vec xs el) := by
  obtain ⟨h0, c, h1, h2, h3⟩ := H
  refine ⟨h0, ?_⟩
  rw [h1]
  obtain ⟨x2, x3⟩ := mapV_den (e := e) hx
  have hl := mapV_length hx
  have : c = xs.toArray := by
    apply Array.ext_getElem?
    intro k
    by_cases hk : k < cs.length
    · have hkk := List.getElem?_eq_getElem hk
      rw [h3 k _ hkk (x3 _ (List.mem_of_getElem? hkk)), ← x2]
      simp [hkk]
    · rw [Array.getElem?_eq_none (by omega), Array.getElem?_eq_none (by simp; omega)]
  rw [this]

theorem SatX.setE (hS : SatX c e s w) {id : Nat} {x x' : Ent} (hx : s.H[id]? = some x) (hal : alive x.obj = true) (hnm : x'.name = x.name)
    (hh : holds e id (fun b => w.heap[b]?) x'.obj) : SatX c e { s with H := s.H.set id x' } w := by
  have back : ∀ {j : Nat} {y : Ent}, (s.H.set id x')[j]? = some y → alive y.obj = true → ∃ z, s.H[j]? = some z ∧ alive z.obj = true ∧ z.name = y.name := by
    intro j y hy hay
    rcases getElem?_set' hy with ⟨rfl, rfl, _⟩ | ⟨_, hy⟩
    · exact ⟨x, hx, hal, hnm.symm⟩
    · exact ⟨y, hy, hay, rfl⟩
  refine ⟨⟨hS.same, hS.size, hS.I, hS.hf, hS.old, fun j y hy hay => ?_, fun i j y z hy hz hay haz hi hj hne => ?_, fun j y b hy hb => ?_⟩, hS.gIn, hS.gI, fun j y hy hay hn => ?_⟩
  · rcases getElem?_set' hy with ⟨rfl, rfl, _⟩ | ⟨_, hy⟩
    · exact ⟨hh, (hS.owned _ x hx hal).2⟩
    · exact hS.owned j y hy hay
  · obtain ⟨y', h1, h2, _⟩ := back hy hay
    obtain ⟨z', h3, h4, _⟩ := back hz haz
    exact hS.apart i j y' z' h1 h3 h2 h4 hi hj hne
  · rcases getElem?_set' hy with ⟨rfl, rfl, _⟩ | ⟨_, hy⟩
    · exact hS.names _ x b hx (hnm ▸ hb)
    · exact hS.names j y b hy hb
  · obtain ⟨y', h1, h2, _⟩ := back hy hay
    exact hS.gOwn j y' h1 h2 hn

theorem symS_tm (s : St) (o : Op) : (symS s o).tm = s.tm ∧ (symS s o).I = s.I ∧ (symS s o).G = s.G ∧ (symS s o).marks = s.marks ∧ (symS s o).H.length = s.H.length := by
  unfold symS
  split
  · split
    · split
      · split
        · simp
        · simp
      · simp
    · simp
  · simp
theorem symS_alive {s : St} {o : Op} {id : Nat} {x : Ent} (h : (symS s o).H[id]? = some x) (hal : alive x.obj = true) : ∃ y, s.H[id]? = some y ∧ alive y.obj = true := by
  unfold symS at h
  split at h
  · split at h
    · split at h
      · rename_i hH
        split at h
        · rcases getElem?_set' h with ⟨rfl, _, _⟩ | ⟨_, h⟩
          · exact ⟨_, hH, rfl⟩
          · exact ⟨_, h, hal⟩
        · exact ⟨_, h, hal⟩
      · exact ⟨_, h, hal⟩
    · exact ⟨_, h, hal⟩
  · exact ⟨_, h, hal⟩
theorem symS_satX (hS : SatX c e s w) (o : Op) : SatX c e (symS s o) w := by
  unfold symS
  split
  · split
    · split
      · rename_i hH
        split
        · rename_i hx
          exact hS.setE hH rfl rfl (mapV_holds hx (hS.owned _ _ hH rfl).1)
        · exact hS
      · exact hS
    · exact hS
  · exact hS
theorem symS_satA (hA : SatA e s a) (o : Op) : SatA e (symS s o) a := by
  obtain ⟨h1, _, _, h2, _⟩ := symS_tm s o
  exact ⟨by rw [h1]; exact hA.size, by rw [h1]; exact hA.tm, by rw [h2]; exact hA.defers⟩

theorem seO_sound {A : List (Nat × CK)} {o : Oper} {K : St → Prop} (h : seO P A s o K) (hS : SatX c e s w) (hA : SatA e s a) {next : Act → World → Prop} {Q : Exit → Act → World → Prop}
    (hn : ∀ (e' : Env) (s' : St) (a' : Act) (w' : World), K s' → SatX c e' s' w' → SatA e' s' a' → s.I.le s'.I → s'.tm.length = s.tm.length → (∃ gm, Evo gm (modsC P A s o) s e w s' e' w') → next a' w') :
    o.wpIn (Fr r) 0 P a w next Q := by
  obtain ⟨d, op, ty, pos, af, g⟩ := o
  unfold seO at h
  unfold modsC at hn
  split at h
  · have hdf : ∀ cl, op ≠ .defer cl := by
      intro cl hop
      subst hop
      simp only [seQ] at h
      split at h <;> exact h.elim
    split at h
    · obtain ⟨sv, hK, hr⟩ := seQ_sound (c := c) h
      have hK := caseK_at hK
      obtain ⟨x, hx, hd⟩ := hr e a w hS.toSat hA
      exact wpIn_value hdf (hx d ty pos af g) (hn e _ _ w hK (hS.put _ _) (hA.put _ hd) (by rw [putS_I]; exact Mem.le_refl _) (putS_len ..) ⟨false, Evo.still (by rw [putS_H]) (fun id x' h1 h2 => ⟨x', by rw [putS_H] at h1; exact h1, h2⟩) (fun b _ h0 => .inl (by rw [putS_I]; exact h0)) (putS_G ..)⟩)
    · have hS2 := symS_satX hS op
      have hA2 := symS_satA hA op
      obtain ⟨h1, h2, h3, _, h5⟩ := symS_tm s op
      obtain ⟨sv, hK, hr⟩ := seQ_sound (c := c) h
      obtain ⟨x, hx, hd⟩ := hr e a w hS2.toSat hA2
      exact wpIn_value hdf (hx d ty pos af g) (hn e _ _ w hK (hS2.put _ _) (hA2.put _ hd) (by rw [putS_I, h2]; exact Mem.le_refl _) ((putS_len ..).trans (by rw [h1])) ⟨false, Evo.still (by rw [putS_H, h5]) (fun id x' g1 g2 => by rw [putS_H] at g1; exact symS_alive g1 g2) (fun b _ h0 => .inl (by rw [putS_I, h2]; exact h0)) ((putS_G ..).trans h3)⟩)
    · obtain ⟨sv, hK, hr⟩ := seQ_sound (c := c) h
      obtain ⟨x, hx, hd⟩ := hr e a w hS.lookG ⟨hA.size, hA.tm, hA.defers⟩
      exact wpIn_value hdf (hx d ty pos af g) (hn e _ _ w hK (hS.put _ _) (hA.put _ hd) (by rw [putS_I]; exact Mem.le_refl _) (putS_len ..) ⟨false, Evo.still (by rw [putS_H]) (fun id x' h1 h2 => ⟨x', by rw [putS_H] at h1; exact h1, h2⟩) (fun b _ h0 => .inl (by rw [putS_I]; exact h0)) (putS_G ..)⟩)
  · rename_i hk
    simp only [hk] at hn
    have hdf : ∀ cl, op ≠ .defer cl := by
      intro cl hop
      subst hop
      simp only [stOf, seE] at h
      split at h <;> exact h.elim
    have both : (∃ sv s', K (putS s' d sv) ∧ EffOk P op c s a w sv s' e) → Oper.wpIn (Fr r) 0 P ⟨d, op, ty, pos, af, g⟩ a w next Q := by
      rintro ⟨sv, s', hK, e', w', x, hrun, hS', hA', hlen, hle, hd, hev⟩
      have hX := hS.step hS' hev
      rcases hrun d ty pos af g with hrun2 | ⟨hrun2, rfl⟩
      · exact wpIn_value hdf hrun2 (hn e' _ _ w' hK (hX.put _ _) (hA'.put _ hd) (by rw [putS_I]; exact hle) ((putS_len ..).trans hlen) ⟨false, hev.put _ _⟩)
      · exact wpIn_skip' hdf hrun2 (hn e' _ _ w' hK (hX.put _ _) (hA'.put _ hd) (by rw [putS_I]; exact hle) ((putS_len ..).trans hlen) ⟨false, hev.put _ _⟩)
    split at h
    · split at h
      · exact both (seEV_sound h hS.toSat hA)
      · exact both (seE_sound h hS.toSat hA)
    · rename_i t ad x hst
      have hop := stOf_eq hst
      simp only at hop
      subst hop
      obtain ⟨s', w', hK, hX, hA', hI, htm, hev, hrun⟩ := seSG_sound h hS hA
      exact wpIn_skip' hdf (hrun d ty pos af g) (hn e _ _ w' hK (hX.put _ _) (hA'.put _ (.inr (by simp [den]))) (by rw [putS_I, hI]; exact Mem.le_refl _) ((putS_len ..).trans (by rw [htm])) ⟨true, (hev.more _).put _ _⟩)
  · rename_i hk
    simp only [hk] at hn
    have hdf : ∀ cl, op ≠ .defer cl := by
      intro cl hop
      subst hop
      simp only [seM] at h
    obtain ⟨sv, s', hK, e', w', x, hrun, hS', hA', hlen, hle, hd, hev⟩ := seM_sound h hS.toSat hA
    have hX := hS.step hS' hev
    rcases hrun d ty pos af g with hrun2 | ⟨hrun2, rfl⟩
    · exact wpIn_value hdf hrun2 (hn e' _ _ w' hK (hX.put _ _) (hA'.put _ hd) (by rw [putS_I]; exact hle) ((putS_len ..).trans hlen) ⟨false, hev.put _ _⟩)
    · exact wpIn_skip' hdf hrun2 (hn e' _ _ w' hK (hX.put _ _) (hA'.put _ hd) (by rw [putS_I]; exact hle) ((putS_len ..).trans hlen) ⟨false, hev.put _ _⟩)
  · rename_i hk
    simp only [hk] at hn
    simp only at h
    split at h
    · rename_i cl
      cases hck : ckOf A d with
      | none =>
        simp only [hck] at h hn
        exact seC_sound (o := ⟨d, .call cl, ty, pos, af, g⟩) rfl h hS.toSat hA fun sv s' x w' hK hS' hA' hle hlen hx hev =>
          hn e _ _ w' hK ((hS.step hS' (hev [])).put _ _) (hA'.put _ (.inr hx)) (by rw [putS_I]; exact hle) ((putS_len ..).trans hlen) ⟨false, (hev _).put _ _⟩
      | some ck =>
        cases ck with
        | g =>
          simp only [hck] at h hn
          exact seCG_sound (o := ⟨d, .call cl, ty, pos, af, g⟩) rfl h hS hA fun sv s' x w' hK hS' hA' hle hlen hx hev =>
            hn e _ _ w' hK (hS'.put _ _) (hA'.put _ (.inr hx)) (by rw [putS_I]; exact hle) ((putS_len ..).trans hlen) ⟨true, (hev.more _).put _ _⟩
        | sym =>
          simp only [hck] at h
        | cs l =>
          simp only [hck] at h
        | hd =>
          simp only [hck] at h
        | st =>
          simp only [hck] at h
        | val b =>
          simp only [hck] at h
        | ro =>
          simp only [hck] at h hn
          exact seRO_sound (o := ⟨d, .call cl, ty, pos, af, g⟩) rfl h hS.toSat hA fun sv s' x w' hK hS' hA' hle hlen hx hev =>
            hn e _ _ w' hK ((hS.step hS' (hev [])).put _ _) (hA'.put _ (.inr hx)) (by rw [putS_I]; exact hle) ((putS_len ..).trans hlen) ⟨false, (hev _).put _ _⟩
        | lend ids res ents =>
          simp only [hck] at h hn
          exact seLend_sound (o := ⟨d, .call cl, ty, pos, af, g⟩) rfl h hS hA fun sv e' s' x w' hK hS' hA' hle hlen hx hev =>
            hn e' _ _ w' hK (hS'.put _ _) (hA'.put _ (.inr hx)) (by rw [putS_I]; exact hle) ((putS_len ..).trans hlen) ⟨false, hev.put _ _⟩
        | lendT ts res ents =>
          simp only [hck] at h hn
          exact seLend_sound (o := ⟨d, .call cl, ty, pos, af, g⟩) rfl h hS hA fun sv e' s' x w' hK hS' hA' hle hlen hx hev =>
            hn e' _ _ w' hK (hS'.put _ _) (hA'.put _ (.inr hx)) (by rw [putS_I]; exact hle) ((putS_len ..).trans hlen) ⟨false, hev.put _ _⟩
    · exact h.elim

theorem SatA.lit (hA : SatA e s a) {d : Nat} {t : Bool} (h : s.tm[d]? = some (.v (.bool t))) : SatA e { s with tm := s.tm.set d (.v (.bool t)) } a := by
  refine ⟨by simpa using hA.size, fun k y hk hj => ?_, hA.defers⟩
  rcases getElem?_set' hk with ⟨rfl, rfl, hlt⟩ | ⟨hne, hk⟩
  · exact hA.tm _ _ h rfl
  · exact hA.tm k y hk hj

theorem SatX.lit (hS : SatX c e s w) (l : List SV) : SatX c e { s with tm := l } w := ⟨⟨hS.same, hS.size, hS.I, hS.hf, hS.old, hS.owned, hS.apart, hS.names⟩, hS.gIn, hS.gI, hS.gOwn⟩
theorem Sat.lit (hS : Sat c e s w) (l : List SV) : Sat c e { s with tm := l } w := ⟨hS.same, hS.size, hS.I, hS.hf, hS.old, hS.owned, hS.apart, hS.names⟩

/-- A region that keeps the order of the text. -/
theorem seOps_sound {A : List (Nat × CK)} {ops : Array Oper} {Q : Exit → Act → World → Prop} : ∀ {l : List Oper} {idx : List Nat} {s : St} {e : Env} {a : Act} {w : World} {K : St → Prop}, idx.map (ops[·]?) = l.map some → seOps P A ops l s K →
    SatX c e s w → SatA e s a → (∀ (e' : Env) (s' : St) (a' : Act) (w' : World), K s' → SatX c e' s' w' → SatA e' s' a' → s.I.le s'.I → s'.tm.length = s.tm.length → Q .normal a' w') →
    wpOpsIn (Fr r) 0 P ops Q idx a w
  | [], idx, s, e, a, w, K, hidx, h, hS, hA, hn => by
    simp only [List.map_nil, List.map_eq_nil_iff] at hidx
    subst hidx
    exact hn e s a w h hS hA (Mem.le_refl _) rfl
  | o :: rest, idx, s, e, a, w, K, hidx, h, hS, hA, hn => by
    cases idx with
    | nil => simp at hidx
    | cons i idx =>
      simp only [List.map_cons, List.cons.injEq] at hidx
      obtain ⟨hi, hidx⟩ := hidx
      have ex : ∀ {s1 : St}, SatA e s1 a → SatX c e s1 w → s1.tm.length = s.tm.length → s1.I = s.I → (seO P A s1 o fun s' => seOps P A ops rest s' K) → o.wpIn (Fr r) 0 P a w (wpOpsIn (Fr r) 0 P ops Q idx) Q := by
        intro s1 hA1 hS1 hl1 hI1 h1
        refine seO_sound h1 hS1 hA1 fun e' s' a' w' hK hS' hA' hle hlen _ => seOps_sound hidx hK hS' hA' fun e2 s2 a2 w2 hK2 hS2 hA2 hle2 hlen2 =>
          hn e2 s2 a2 w2 hK2 hS2 hA2 (Mem.le_trans (hI1 ▸ hle) hle2) (hlen2.trans (hlen.trans hl1))
      have sk : ∀ {s1 : St}, SatA e s1 a → SatX c e s1 w → s1.tm.length = s.tm.length → s1.I = s.I → seOps P A ops rest (putS s1 o.dst (.v undef)) K → wpOpsIn (Fr r) 0 P ops Q idx (a.put o.dst undef) w := by
        intro s1 hA1 hS1 hl1 hI1 h1
        refine seOps_sound hidx h1 (hS1.put _ _) (hA1.put _ (.inr (by simp [den]))) fun e2 s2 a2 w2 hK2 hS2 hA2 hle2 hlen2 =>
          hn e2 s2 a2 w2 hK2 hS2 hA2 (by rw [putS_I, hI1] at hle2; exact hle2) (hlen2.trans ((putS_len ..).trans hl1))
      simp only [wpOpsIn, hi]
      simp only [seOps] at h
      split at h
      · rename_i hg
        rw [if_pos (by simp [Region.wanted, hg])]
        obtain ⟨s1, h, hS0, hA1, hle1, hlen1, hls⟩ := hand_sound h hS.toSat hA
        exact seO_sound h (hls.x hS hS0) hA1 fun e' s' a' w' hK hS' hA' hle hlen _ => seOps_sound hidx hK hS' hA' fun e2 s2 a2 w2 hK2 hS2 hA2 hle2 hlen2 =>
          hn e2 s2 a2 w2 hK2 hS2 hA2 (Mem.le_trans hle1 (Mem.le_trans hle hle2)) (hlen2.trans (hlen.trans hlen1))
      · rename_i j want hg
        split at h
        · rename_i d hd
          have hw : Region.wanted o (yielded ops a.tmps) = (yielded ops a.tmps j == some want) := by simp [Region.wanted, hg]
          split at h
          · rename_i t ht
            have hy : yielded ops a.tmps j = some t := by
              have := hA.tm d _ ht rfl
              simp only [den] at this
              unfold yielded
              rw [hd]
              simp [this]
            rw [hw, hy]
            cases t with
            | true =>
              simp only [Br_true] at h
              cases want with
              | true => rw [if_pos (by rfl)]; exact ex (hA.lit ht) (hS.lit _) (by simp) rfl h
              | false => rw [if_neg (by simp)]; exact ⟨fun _ _ => trivial, sk (hA.lit ht) (hS.lit _) (by simp) rfl h⟩
            | false =>
              simp only [Br_false] at h
              cases want with
              | false => rw [if_pos (by rfl)]; exact ex (hA.lit ht) (hS.lit _) (by simp) rfl h
              | true => rw [if_neg (by simp)]; exact ⟨fun _ _ => trivial, sk (hA.lit ht) (hS.lit _) (by simp) rfl h⟩
          · rename_i vs ht
            have hy : yielded ops a.tmps j = none := by
              have := hA.tm d _ ht rfl
              simp only [den] at this
              unfold yielded
              rw [hd]
              simp [this]
            rw [hw, hy]
            rw [if_neg (by simp)]
            exact ⟨fun _ _ => trivial, sk hA hS rfl rfl h⟩
          · exact h.elim
        · exact h.elim

end
end Go.SE
