/- Calls to which own memory is lent. -/
import Derived.Test.YthfgpdjplknleaaGreatDoorSe14L
namespace Go.SE
open Go.RowKit

/-- The memory hp is what the entries say, and nothing else. -/
structure OwnE (e : Env) (H : List Ent) (hp : Mem) : Prop where
  hold : ∀ (id : Nat) (x : Ent), H[id]? = some x → alive x.obj = true → holds e id hp x.obj
  apart : ∀ (i j : Nat) (x y : Ent), H[i]? = some x → H[j]? = some y → alive x.obj = true → alive y.obj = true → e.nil i = false → e.nil j = false → i ≠ j → e.blk i ≠ e.blk j
  dom : ∀ b, hp b ≠ none → ∃ (id : Nat) (x : Ent), H[id]? = some x ∧ alive x.obj = true ∧ e.nil id = false ∧ e.blk id = b
  names : ∀ (id : Nat) (x : Ent) (b : Nat), H[id]? = some x → x.name = some b → e.blk id = b ∧ e.nil id = false

/-- A CONTRACT WITH MEMORY LENT: the value is called with these arguments, of which some name the entries H; it answers a value that names the entries H'. -/
def CtS (P : Program) (fv : SV) (args : List SV) (H : List Ent) (I : Mem) (post : SV → List Ent → Mem → Prop) : Prop :=
  ∀ (e : Env) (hp : Mem), OwnE e H hp → CtH P (den e fv) (denL e args).toArray I hp fun v I' hp' => ∃ e' sv H', v = den e' sv ∧ OwnE e' H' hp' ∧ post sv H' I'

theorem CtS.mono {P : Program} {fv : SV} {args : List SV} {H : List Ent} {I : Mem} {post post' : SV → List Ent → Mem → Prop} (h : CtS P fv args H I post)
    (hr : ∀ sv H' I', I.le I' → post sv H' I' → post' sv H' I') : CtS P fv args H I post' :=
  fun e hp hO => (h e hp hO).mono fun _ _ _ hle ⟨e', sv, H', h1, h2, h3⟩ => ⟨e', sv, H', h1, h2, hr _ _ _ hle h3⟩

def renE (f : Nat → Nat) (x : Ent) : Ent :=
  match x.obj with
  | .cells cs el => ⟨.cells (renFL f cs) el, x.name⟩
  | _ => x
theorem renE_alive (f : Nat → Nat) (x : Ent) : alive (renE f x).obj = alive x.obj ∧ (renE f x).name = x.name := by
  unfold renE
  split
  · rename_i h; simp [h, alive]
  · exact ⟨rfl, rfl⟩
def entRefs (x : Ent) : List Nat :=
  match x.obj with
  | .cells cs _ => refsOfL cs
  | _ => []

/-- What a value that a call answers is like: it names entries by their numbers in the call. -/
inductive RSh where
  | sh (s : Sh)
  | row (j : Nat)
  | ptr (j off : Nat)
  | agg (l : List RSh)
  | tup (l : List RSh)
mutual
def exR : RSh → (SV → Prop) → Prop
  | .sh s, F => ExV1 s fun _ sv => F sv
  | .row j, F => ∃ n : Nat, F (.rsl j n)
  | .ptr j off, F => F (.ptr j off)
  | .agg l, F => exRs l fun xs => F (.agg xs)
  | .tup l, F => exRs l fun xs => F (.tup xs)
def exRs : List RSh → (List SV → Prop) → Prop
  | [], F => F []
  | r :: l, F => exR r fun x => exRs l fun xs => F (x :: xs)
end
/-- What an entry is like behind a call. -/
inductive ESh where
  | same | dead
  | row (sz : Nat) (el : TypeId)
  | vec (el : TypeId)
  | cells (l : List RSh) (el : TypeId)
def nmOf (o : Option Ent) : Option Nat :=
  match o with
  | some x => x.name
  | none => none
def exE (o : Option Ent) (sh : ESh) (F : Ent → Prop) : Prop :=
  match sh with
  | .same => match o with
    | some ⟨obj, some b⟩ => F ⟨obj, some b⟩
    | _ => False
  | .dead => F ⟨.dead, none⟩
  | .row sz el => ∃ xs : List Value, F ⟨.row xs sz el, none⟩
  | .vec el => ∃ xs : List Value, F ⟨.vec xs el, nmOf o⟩
  | .cells l el => exRs l fun xs => F ⟨.cells xs el, nmOf o⟩
def exEs : List Ent → List ESh → (List Ent → Prop) → Prop
  | _, [], F => F []
  | [], sh :: r, F => exE none sh fun x => exEs [] r fun xs => F (x :: xs)
  | y :: ys, sh :: r, F => exE (some y) sh fun x => exEs ys r fun xs => F (x :: xs)

/-- The entries that are lent; each that has a block of its own gets a name. -/
def nameQ : List Ent → (List Ent → Prop) → Prop
  | [], F => F []
  | x :: r, F => match x with
    | ⟨.row xs sz el, _⟩ => nameQ r fun l => F (⟨.row xs sz el, none⟩ :: l)
    | ⟨o, some b⟩ => nameQ r fun l => F (⟨o, some b⟩ :: l)
    | ⟨o, none⟩ => ∀ b : Nat, nameQ r fun l => F (⟨o, some b⟩ :: l)

def entsAt (H : List Ent) : List Nat → Option (List Ent)
  | [] => some []
  | id :: r => match H[id]?, entsAt H r with
    | some x, some l => if alive x.obj then some (x :: l) else none
    | _, _ => none
def bck (ids : List Nat) (n j : Nat) : Nat :=
  match ids[j]? with
  | some id => id
  | none => n + (j - ids.length)

/-- What is forgotten of a value: it names a row that has moved. -/
def junkL (jl ids : List Nat) (x : SV) : SV := bif (refsOf x).any (fun i => memB i jl) || (refsOf x).any (fun i => memB i ids && rslR i x) then .junk else x
def junkEL (jl ids : List Nat) (x : Ent) : Ent :=
  match x.obj with
  | .cells cs el => ⟨.cells (cs.map (junkL jl ids)) el, x.name⟩
  | _ => x
def moved : List Nat → List Ent → List Nat
  | id :: r, ⟨_, none⟩ :: l => id :: moved r l
  | _ :: r, ⟨_, some _⟩ :: l => moved r l
  | id :: r, [] => id :: moved r []
  | [], _ => []
def newH (jl ids : List Nat) (H' : List Ent) (n : Nat) : Nat → List Ent → List Ent
  | _, [] => (H'.drop ids.length).map (renE (bck ids n))
  | i, x :: r => (bif memB i ids then (match H'[posOf i ids]? with
      | some y => renE (bck ids n) y
      | none => ⟨.dead, none⟩) else junkEL jl ids x) :: newH jl ids H' n (i + 1) r
def afterL (s : St) (ids : List Nat) (H' : List Ent) (I' : Mem) : St :=
  { s with tm := s.tm.map (junkL (moved ids H') ids), H := newH (moved ids H') ids H' s.H.length 0 s.H, I := I' }

def allIn (ids : List Nat) (l : List Nat) : Bool := l.all fun i => memB i ids
def lendOk (s : St) (ids : List Nat) (xs : List SV) (H0 : List Ent) : Bool :=
  nodupB ids && (ids.all (fun i => Nat.blt i s.H.length) && (s.marks.all (fun i => !memB i ids) && (wfSt s && (allIn ids (refsOfL xs) && (H0.all (fun x => allIn ids (entRefs x)) && (xs.all (fun x => !isJunk x) && (match s.rnd with
    | some i => !memB i ids && Nat.blt i s.H.length
    | none => true)))))))

/-- A CALL TO WHICH THE ENTRIES ids ARE LENT. -/
def seLend (P : Program) (s : St) (cl : Call) (ids : List Nat) (res : RSh) (ents : List ESh) (K : SV → St → Prop) : Prop :=
  match cl.callee with
  | .value fo => hand P 100 ((refsOfL ((fo :: cl.args.toList).map (ev s))).filter fun i => !memB i ids) s fun s1 =>
      match entsAt s1.H ids with
      | some H0 => if lendOk s1 ids ((fo :: cl.args.toList).map (ev s1)) H0 then
          nameQ (H0.map (renE fun i => posOf i ids)) fun H1 =>
            CtS P (renF (fun i => posOf i ids) (ev s1 fo)) (renFL (fun i => posOf i ids) (cl.args.toList.map (ev s1))) H1 s1.I fun sv H' I' =>
              exR res fun sv0 => exEs H1 ents fun H2 => sv = sv0 ∧ H' = H2 ∧ K (renF (bck ids s1.H.length) sv0) (afterL s1 ids H2 I')
          else False
      | none => False
  | _ => False

/-- A CALL that may write what is owned but not looked into. -/
def seCG (P : Program) (s : St) (cl : Call) (t : TypeId) (K : SV → St → Prop) : Prop :=
  match cl.callee with
  | .value f => hand P 100 (refsOfL ((f :: cl.args.toList).map (ev s))) s fun s' =>
      match valS (ev s' f), valL (cl.args.toList.map (ev s')) with
      | some fv, some vs => CtH P fv vs.toArray s'.I s'.G fun v I' G' => ExRet P t v fun sv => K sv { s' with I := I', G := G' }
      | _, _ => False
  | _ => False

section
variable {P : Program} {c : Ctx} {e : Env} {s : St} {w : World} {a : Act} {r : Option Nat}

theorem Less.x {s' : St} (h : Less e s s') (hS : SatX c e s w) (hS' : Sat c e s' w) : SatX c e s' w := hS.step hS' (h.evo [] w)

theorem seCG_sound {o : Oper} {cl : Call} (ho : o.op = .call cl) {K : SV → St → Prop} (h : seCG P s cl o.type K) (hS : SatX c e s w) (hA : SatA e s a) {next : Act → World → Prop} {Q : Exit → Act → World → Prop}
    (hn : ∀ (sv : SV) (s' : St) (x : Value) (w' : World), K sv s' → SatX c e s' w' → SatA e s' a → s.I.le s'.I → s'.tm.length = s.tm.length → x = den e sv → Evo true [] s e w s' e w' → next (a.put o.dst x) w') :
    o.wpIn (Fr r) 0 P a w next Q := by
  obtain ⟨callee, args, ts⟩ := cl
  unfold seCG at h
  split at h
  · rename_i f hcal
    simp only at hcal
    subst hcal
    obtain ⟨s', h, hS', hA', hle, hlen, hls⟩ := hand_sound h hS.toSat hA
    have hX := hls.x hS hS'
    split at h
    · rename_i fv vs hfv hvs
      obtain ⟨f1, f2⟩ := valS_den (e := e) hfv
      obtain ⟨v1, v2⟩ := valL_den (e := e) hvs
      have hf : a.eval f = fv := by rw [ev_ok hA' f f2, f1]
      have hargs : args.map a.eval = vs.toArray := by
        have : (args.toList.map (ev s')).all (fun x => !isJunk x) = true := by
          simp only [List.all_eq_true, Bool.not_eq_true']
          exact v2
        have h2 := evs_ok hA' this
        rw [v1] at h2
        rw [← h2, Array.toList_map.symm]
      have hap : s'.I.apart s'.G := fun b => by
        cases hb : s'.G b with
        | none => exact .inr rfl
        | some o => exact .inl (hX.gI b (by rw [hb]; simp)).1
      refine wpIn_call (f := f) (args := args) (ts := ts) ho (R := _) (by rw [hf, hargs]; exact h w hX.I hX.gIn hap) ?_
      intro en w' he
      obtain ⟨v, I', G', rfl, hle2, hI', hG', hap', hsz, hsame, hold, hnew, hpost⟩ := he
      obtain ⟨sv, hK, _, hd⟩ := ExRet_sound hpost
      have hfG : ∀ b, c.hf b ≠ none → s'.G b = none := fun b hb => by
        cases hg : s'.G b with
        | none => rfl
        | some o => exact absurd (hX.gI b (by rw [hg]; simp)).2 hb
      have hSat : Sat c e { s' with I := I', G := G' } w' := by
        refine ⟨hX.same.trans hsame, Nat.le_trans hX.size hsz, hI', fun b o hb => ?_, fun b hb h0 => ?_, fun id x hx hal => ?_, hX.apart, hX.names⟩
        · rw [hold b (Mem.inW_lt hX.hf hb) (hfG b (by rw [hb]; simp))]
          exact hX.hf b o hb
        · obtain ⟨o, ho⟩ := Option.ne_none_iff_exists'.1 hb
          exact (hnew b (Mem.inW_lt hX.hf ho) (hfG b hb)).2 (hX.old b hb h0)
        · obtain ⟨h1, h2⟩ := hX.owned id x hx hal
          refine ⟨holds_mem (fun hn => hold _ (blk_lt hX.toSat hx hal hn) (hX.gOwn id x hx hal hn)) h1, fun hn => ⟨?_, (h2 hn).2⟩⟩
          exact (hnew _ (blk_lt hX.toSat hx hal hn) (hX.gOwn id x hx hal hn)).2 (h2 hn).1
      refine ⟨v, rfl, hn sv _ v w' hK ⟨hSat, hG', fun b hb => ⟨?_, ?_⟩, fun id x hx hal hnl => ?_⟩ ⟨hA'.size, hA'.tm, hA'.defers⟩ (Mem.le_trans hle hle2) hlen (hd e).symm ?_⟩
      · exact (hap' b).resolve_right hb
      · cases hf : c.hf b with
        | none => rfl
        | some o => exact absurd (hnew b (Mem.inW_lt hX.hf hf) (hfG b (by rw [hf]; simp))).1 hb
      · exact (hnew _ (blk_lt hX.toSat hx hal hnl) (hX.gOwn id x hx hal hnl)).1
      · have hev := hls.evo [] w
        refine ⟨fun b hb hg _ => hold b hb (by rw [hls.g]; exact hg rfl), hsz, hev.same, fun _ _ _ h => by simp at h, hev.new, hev.len, hev.live, fun b hb hg => (hnew b hb (by rw [hls.g]; exact hg)).1, fun h => (by cases h), fun b hb hg h0 => ?_⟩
        rcases hev.rd b hb (fun h => by cases h) h0 with h1 | h1
        · exact .inl ((hnew b hb (by rw [hls.g]; exact hg rfl)).2 h1)
        · exact .inr h1
    · exact h.elim
  · exact h.elim

end
end Go.SE
