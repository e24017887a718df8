/-
  The walk of a disk's Wake. (printed by gen/vwake.py)
-/
import Derived.Test.YtcfhhekklakacaaVfsNames
namespace Go.Proofs.Ytcfhhekklakacaa
open Go.RowKit Go.Shelf
set_option linter.unusedVariables false
attribute [local go_sem] Oper.semAt_some
/-- what a crash may make of a file -/
def TornOk (p q : List UInt8 × Nat) : Prop := q.1.length ≤ p.1.length ∧ p.2 ≤ q.2 ∧ q.2 ≤ q.1.length ∧ q.1.take p.2 = p.1.take p.2 ∧ (p.2 = p.1.length → q.1 = p.1)
theorem TornOk.refl {p : List UInt8 × Nat} (h : p.2 ≤ p.1.length) : TornOk p p := ⟨Nat.le_refl _, Nat.le_refl _, h, rfl, fun _ => rfl⟩
theorem TornOk.trans {p q r : List UInt8 × Nat} (h : TornOk p q) (h' : TornOk q r) : TornOk p r := by
  obtain ⟨a1, a2, a3, a4, a5⟩ := h
  obtain ⟨b1, b2, b3, b4, b5⟩ := h'
  refine ⟨by omega, by omega, b3, ?_, fun e => ?_⟩
  · have := congrArg (List.take p.2) b4
    rw [List.take_take, List.take_take, Nat.min_eq_left a2] at this
    rw [this, a4]
  · have e1 := a5 e
    rw [b5 (by rw [e1]; rw [e1] at a3; omega), e1]
def St.woken (S : St) (M : FM) (con : Nat → List UInt8 × Nat) (n : Nat) : St := { cur := M, maps := [], ids := S.ids, con := con, armed := 0, full := 0, down := false, n := n }
theorem Wf.woken {S : St} (h : Wf S) {M : FM} (hM : M ∈ S.all) {con : Nat → List UInt8 × Nat} (hc : ∀ id ∈ S.ids, TornOk (S.con id) (con id)) (n : Nat) : Wf (S.woken M con n) := by
  have hall : ∀ M' ∈ (S.woken M con n).all, M' = M := fun M' h => by simpa [St.woken, St.all] using h
  exact ⟨h.nodup, fun id hid => (hc id hid).2.2.1, fun M' h' => by rw [hall M' h']; exact h.refs M hM, fun M' h' => by rw [hall M' h']; exact h.inj M hM, Nat.zero_le _, Nat.zero_le _, fun id hid => Nat.le_trans (hc id hid).1 (h.lens id hid)⟩
/-- what a crash makes of a file by the first two tears -/
def Torn1 (p : List UInt8 × Nat) (ts : List Int) (q : List UInt8 × Nat) : Prop :=
  q.2 = q.1.length ∧ (p.1.length = p.2 → q.1 = p.1) ∧ (p.2 < p.1.length → q.1.length = p.2 + modN (ts.headD 0) (p.1.length - p.2 + 1) ∧ (ts.tail.headD 0 = 1 → 1 ≤ modN (ts.headD 0) (p.1.length - p.2 + 1) → q.1[p.2]? = some 0))
/-- where there is one file -/
def OneFile (S : St) (M : FM) (ts0 : List Int) (i : Nat) (con : Nat → List UInt8 × Nat) (ts : List Int) : Prop :=
  ∀ id0, (∀ l id, M l = some id → id = id0) → id0 ∈ S.ids → (i = 0 → con id0 = S.con id0 ∧ ts = ts0) ∧ (0 < i → Torn1 (S.con id0) ts0 (con id0))
/-- what Wake makes of a disk -/
def WakeTo (base g : Nat) (room : Int) (S : St) (ts : List Int) (w : World) (x : Int) (w' : World) : Prop :=
  IntKeep base w w' ∧ ((S.down = false ∧ x = 11 ∧ VAt w' g base room S) ∨ (S.down = true ∧ x = 0 ∧ ∃ M con n, M ∈ S.all ∧ n ≤ S.n + 2 * S.maps.length ∧ (∀ id ∈ S.ids, TornOk (S.con id) (con id)) ∧ (∀ id0, (∀ l id, M l = some id → id = id0) → (∃ l, M l = some id0) → Torn1 (S.con id0) ts (con id0)) ∧ VAt w' g base room (S.woken M con n)))
theorem ReadsAt.blk {w w' : World} {B s n : Nat} {A : Option Addr} {xs : List Value} (h : ReadsAt w B s A n xs) (hk : ∀ b off, A = some ⟨b, off, none⟩ → b < B → w'.heap[b]? = w.heap[b]?) : ReadsAt w' B s A n xs := by
  refine ⟨h.1, fun hp => ?_⟩
  obtain ⟨b, off, e, hb, hc⟩ := h.2 hp
  refine ⟨b, off, e, hb, fun j u hu => ?_⟩
  have h1 := hc j u hu
  have h2 := hk b off e hb
  unfold World.cell? at h1 ⊢
  simp only [h2]
  exact h1
theorem VX.turnedT {w w' : World} {g base : Nat} {room : Int} {S S' : St} {M M' : FM} {mb : Nat} {uv : Value} {fs : List Value} {t c : Int} {rv : Nat → Value} (h : VX w g base room S M mb uv fs t c rv) {T : Nat → Prop} (hk : Keep T w w') (hT : ∀ (k ty : Nat) (cs : Array Value), Blk w k ty cs → ¬ T k) (hm : FMapAt w' mb S'.n M') (e1 : S'.maps = S.maps) (e2 : S'.cur = S.cur) (e3 : S'.ids = S.ids) (e4 : S'.con = S.con) (e5 : S'.armed = S.armed) (e6 : S'.full = S.full) (e7 : S'.down = S.down) : VX w' g base room S' M' mb uv fs t c rv := by
  have hbox : BoxKeep w w' := BoxKeep.keep hk fun k cs ty hS hty hb => hT _ _ _ hb hS
  have hall : S'.all = S.all := by unfold St.all; rw [e1, e2]
  have hrow : ∀ {b2 e s n : Nat} {v : Value} {xs : List Value}, w.ownsRow b2 e s v n xs → ∀ k, v.ownBlock = some k → ¬ T k := fun ho k hk2 => by
    obtain ⟨cur, q⟩ := own_obj ho hk2
    exact hT _ _ _ (show Blk w k _ cur from q)
  refine ⟨by rw [e5, e6, e7]; exact hk.blk h.disk (hT _ _ _ h.disk), h.ge, h.mge, hm, hk.own h.undo (hrow h.undo), by rw [e1]; exact h.many, by rw [hall]; exact fun i f M1 M2 a b c => (h.back i f M1 M2 a b c).keep hbox, ?_, ?_, by rw [e3]; exact h.apart⟩
  · rw [e3, e4]
    exact fun id hid => ⟨(h.file id hid).1, by
      obtain ⟨d, hd⟩ := (h.file id hid).2
      exact ⟨d, hk.blk hd (hT _ _ _ hd)⟩⟩
  · rw [e3, e4]
    exact fun id hid => hk.own (h.row id hid) (hrow (h.row id hid))
def St.nTo (S : St) (n : Nat) : St := { S with n := n }
/-- what the rounds of the undoing keep -/
structure UndoI (w6 : World) (S : St) (mb k n lp : Nat) (o : Obj) (i : Nat) (W : World) : Prop where
  loop : W.heap[lp]? = some o
  keep : Keep (fun j => j = mb ∨ j = lp) w6 W
  map : ∃ M, S.all[k + i]? = some M ∧ FMapAt W mb (S.n + 2 * (n - k - i)) M
def St.conTo (S : St) (con : Nat → List UInt8 × Nat) : St := { S with con := con }
/-- what the rounds over the files keep -/
structure WakeI (base : Nat) (w : World) (g : Nat) (room : Int) (S : St) (M : FM) (mb : Nat) (uv : Value) (fs : List Value) (t c : Int) (bx nb Bx lp D1 D2 : Nat) (ts0 : List Int) (o : Obj) (i : Nat) (W : World) : Prop where
  loop : W.heap[lp]? = some o
  def1 : W.heap[D1]? = some (.deferred (some []))
  def2 : W.heap[D2]? = some (.deferred (some []))
  vx : ∃ con rv ts, (∀ id ∈ S.ids, TornOk (S.con id) (con id)) ∧ TearsAt base w W bx ts ∧ OneFile S M ts0 i con ts ∧ VX W g base room (S.conTo con) M mb uv fs t c rv
  ik : IntKeep base w W
  clos : Blk W nb 61 #[.func (.func 36) #[] #[pg bx]]
  box : Blk W Bx 25 #[pg g]
section
variable {base : Nat} {w : World} {g : Nat} {room : Int} {S : St} {M : FM} {mb : Nat} {uv : Value} {fs : List Value} {t c : Int} {bx nb Bx lp D1 D2 : Nat} {ts0 : List Int} {o : Obj} {i : Nat} {W W' : World}
theorem WakeI.base_le (h : WakeI base w g room S M mb uv fs t c bx nb Bx lp D1 D2 ts0 o i W) : base ≤ W.heap.size := by
  obtain ⟨con, rv, ts, -, -, -, hx⟩ := h.vx
  exact Nat.le_of_lt (Nat.lt_of_le_of_lt hx.ge hx.disk.lt)
theorem WakeI.grow (h : WakeI base w g room S M mb uv fs t c bx nb Bx lp D1 D2 ts0 o i W) (hg : Grow W W') : WakeI base w g room S M mb uv fs t c bx nb Bx lp D1 D2 ts0 o i W' := by
  have ho : ∀ {j : Nat} {o : Obj}, W.heap[j]? = some o → W'.heap[j]? = some o := fun hj => (hg.block _ (Array.getElem?_eq_some_iff.1 hj).1).trans hj
  refine ⟨ho h.loop, ho h.def1, ho h.def2, ?_, h.ik.trans (IntKeep.grow hg h.base_le), h.clos.below hg h.clos.lt, h.box.below hg h.box.lt⟩
  obtain ⟨con, rv, ts, h1, h2, h3, h4⟩ := h.vx
  exact ⟨con, rv, ts, h1, h2.keep (Keep.grow (S := fun _ => False) hg) (fun e => e), h3, h4.grow hg⟩
theorem WakeI.told (h : WakeI base w g room S M mb uv fs t c bx nb Bx lp D1 D2 ts0 o i W) : W.cell? ⟨Bx, 0, none⟩ = some (pg g) ∧ W.cell? ⟨g, 1, none⟩ = some (.map (some mb)) ∧ FMapAt W mb S.n M := by
  obtain ⟨con, rv, ts, -, -, -, h2⟩ := h.vx
  exact ⟨h.box.cell 0, h2.disk.cell 1, h2.map⟩
theorem WakeI.turn (h : WakeI base w g room S M mb uv fs t c bx nb Bx lp D1 D2 ts0 o i W) (hlo : ∃ r, o = .loop r) {id : Nat} {csf csb : Array Value} (hf : Blk W id 58 csf) (hb : Blk W bx 23 csb) (h1 : base ≤ id) (h2 : base ≤ bx) (h3 : base ≤ lp) (hk : Keep (fun j => j = lp ∨ j = id ∨ j = bx) W W') (hl : W'.heap[lp]? = some o)
    (hv : ∃ con rv ts, (∀ id ∈ S.ids, TornOk (S.con id) (con id)) ∧ TearsAt base w W' bx ts ∧ OneFile S M ts0 (i + 1) con ts ∧ VX W' g base room (S.conTo con) M mb uv fs t c rv) : WakeI base w g room S M mb uv fs t c bx nb Bx lp D1 D2 ts0 o (i + 1) W' ∧ W.heap.size ≤ W'.heap.size ∧ ∀ k cs, Blk W k 9 cs → Blk W' k 9 cs := by
  obtain ⟨r, rfl⟩ := hlo
  have hty : ∀ {j ty : Nat} {cs : Array Value}, Blk W j ty cs → ty ≠ 58 → ty ≠ 23 → ¬ (j = lp ∨ j = id ∨ j = bx) := fun hB n1 n2 e => by
    rcases e with e | e | e
    · rw [e] at hB
      have := (show W.heap[lp]? = _ from hB).symm.trans h.loop
      cases this
    · rw [e] at hB
      have := (show W.heap[id]? = _ from hB).symm.trans hf
      injection this with this
      injection this with _ this _
      exact n1 this
    · rw [e] at hB
      have := (show W.heap[bx]? = _ from hB).symm.trans hb
      injection this with this
      injection this with _ this _
      exact n2 this
  have hdf : ∀ {j : Nat}, W.heap[j]? = some (.deferred (some [])) → ¬ (j = lp ∨ j = id ∨ j = bx) := fun hB e => by
    rcases e with e | e | e
    · rw [e, h.loop] at hB; cases hB
    · rw [e, show W.heap[id]? = _ from hf] at hB; cases hB
    · rw [e, show W.heap[bx]? = _ from hb] at hB; cases hB
  refine ⟨⟨hl, hk.obj h.def1 (hdf h.def1), hk.obj h.def2 (hdf h.def2), hv, h.ik.trans (IntKeep.keep hk h.base_le (fun j hj => by rcases hj with rfl | rfl | rfl <;> assumption) (fun k cs hS hB => hty hB (by decide) (by decide) hS)), hk.blk h.clos (hty h.clos (by decide) (by decide)), hk.blk h.box (hty h.box (by decide) (by decide))⟩, hk.size, fun k cs hB => hk.blk hB (hty hB (by decide) (by decide))⟩
/-- a row of ints turns -/
theorem VX.keepInts {rv : Nat → Value} (h : VX w g base room S M mb uv fs t c rv) {csb : Array Value} (hb : Blk w bx 23 csb) (hk : Keep (fun j => j = bx) w W') : VX W' g base room S M mb uv fs t c rv := by
  have hne : ∀ {k ty : Nat} {cs : Array Value}, Blk w k ty cs → ty ≠ 23 → ¬ (k = bx) := fun hB ht e => by
    rw [e] at hB
    have := (show w.heap[bx]? = _ from hB).symm.trans hb
    injection this with this
    injection this with _ this _
    exact ht this
  have hrow : ∀ {b2 e s n : Nat} {v : Value} {xs : List Value}, w.ownsRow b2 e s v n xs → e ≠ 23 → ∀ k, v.ownBlock = some k → ¬ (k = bx) := fun ho ht k hk2 => by
    obtain ⟨cur, q⟩ := own_obj ho hk2
    exact hne (show Blk w k _ cur from q) ht
  exact h.keep hk (hne h.disk (by decide)) (fun e => h.map_ne hb e.symm) (hrow h.undo (by decide)) (fun id hid => by
    obtain ⟨d, hd⟩ := (h.file id hid).2
    exact hne hd (by decide)) (fun id hid => hrow (h.row id hid) (by decide)) (BoxKeep.keep hk fun k cs ty hS hty hB => hne hB (by rcases hty with rfl | rfl | rfl | rfl <;> decide) hS)
/-- all that waits is done, and the disk is up again -/
theorem VX.wakes {rv : Nat → Value} {n : Nat} {con : Nat → List UInt8 × Nat} (h : VX w g base room ((S.nTo n).conTo con) M mb uv fs t c rv) (hk : Keep (fun j => j = g) w W') (hd : Blk W' g 51 (diskC room mb (.slice none 0 0) 0 0 t c false)) : VX W' g base room (S.woken M con n) M mb (.slice none 0 0) [] t c rv := by
  have hne : ∀ {ty : Nat} {cs : Array Value} {k : Nat}, Blk w k ty cs → ty ≠ 51 → ¬ (k = g) := fun hb ht e => by
    rw [e] at hb
    have := (show w.heap[g]? = _ from hb).symm.trans h.disk
    injection this with this
    injection this with _ this _
    exact ht this
  have hrow : ∀ {b2 e s n : Nat} {v : Value} {xs : List Value}, w.ownsRow b2 e s v n xs → e ≠ 51 → ∀ k, v.ownBlock = some k → ¬ (k = g) := fun ho ht k hk2 e => by
    obtain ⟨cur, q⟩ := own_obj ho hk2
    exact hne (show Blk w k _ cur from q) ht e
  exact ⟨hd, h.ge, h.mge, h.map.keep hk (fun e => h.map_ne h.disk e.symm), World.ownsRow_nil W' base 1 1, rfl, fun i f M1 M2 a => by simp at a, fun id hid => ⟨(h.file id hid).1, by
    obtain ⟨d, hd⟩ := (h.file id hid).2
    exact ⟨d, hk.blk hd (hne hd (by decide))⟩⟩, fun id hid => hk.own (h.row id hid) (hrow (h.row id hid) (by decide)), h.apart⟩
end
/-- a tear is taken, and its file is torn by it -/
def nextW (base : Nat) (w w0 : World) (bx id s many : Nat) (d : Bool) (L : List UInt8) (ts : List Int) : List Value → World → Prop
  | [], W => Grow w0 W
  | [v], W => ∃ i : Int, v = .int .i64 i ∧ -9223372036854775808 ≤ i ∧ i ≤ 9223372036854775807 ∧ TearsAt base w W bx ts.tail ∧ Keep (fun j => j = bx) w0 W ∧ i = ts.headD 0
  | [_, _], W => ∃ Wm, TearsAt base w Wm bx ts.tail ∧ Keep (fun j => j = bx) w0 Wm ∧ ∃ (v : Value) (L' : List UInt8), Blk W id 58 #[v, .int .i64 (s : Int), .bool d] ∧ W.ownsRow Wm.heap.size 5 1 v L'.length (L'.map b8) ∧ L'.length = s + many ∧ L'.take s = L.take s ∧ (ts.headD 0 = 1 → 1 ≤ many → L'[s]? = some 0) ∧ Keep (fun j => j = id) Wm W
  | _, _ => False
theorem nextW.grow {base : Nat} {w w0 : World} {bx id s many : Nat} {d : Bool} {L : List UInt8} {ts : List Int} : ∀ (vals : List Value) (x y : World), Grow x y → nextW base w w0 bx id s many d L ts vals x → nextW base w w0 bx id s many d L ts vals y
  | [], _, _, g, h => Grow.trans h g
  | [_], _, _, g, ⟨i, e, h1, h2, h3, h4, h5⟩ => ⟨i, e, h1, h2, h3.keep (Keep.grow (S := fun _ => False) g) (fun e => e), h4.trans' (Keep.grow g), h5⟩
  | [_, _], _, _, g, ⟨Wm, h1, h2, v, L', h3, h4, h5, h6, h8, h7⟩ => ⟨Wm, h1, h2, v, L', h3.below g h3.lt, own_below h4 g, h5, h6, h8, h7.trans' (Keep.grow g)⟩
  | _ :: _ :: _ :: _, _, _, _, h => h
theorem OneFile.full {S : St} {M : FM} {ts0 ts : List Int} {i : Nat} {con : Nat → List UInt8 × Nat} (h : OneFile S M ts0 i con ts) {l : List UInt8} {id : Nat} (hid : M l = some id) (hq : (con id).1.length = (con id).2) : OneFile S M ts0 (i + 1) (fun x => if x = id then ((con id).1, (con id).1.length) else con x) ts := fun id0 h1 h2 => by
  refine ⟨fun e => by omega, fun _ => ?_⟩
  obtain rfl := h1 l id hid
  simp only [if_true]
  obtain ⟨a, b⟩ := h id h1 h2
  rcases Nat.eq_zero_or_pos i with e | e
  · obtain ⟨c1, -⟩ := a e
    rw [← c1]
    exact ⟨rfl, fun _ => rfl, fun h => by omega⟩
  · obtain ⟨c1, c2, c3⟩ := b e
    exact ⟨rfl, c2, c3⟩
theorem OneFile.torn {S : St} {M : FM} {ts0 ts : List Int} {i : Nat} {con : Nat → List UInt8 × Nat} (h : OneFile S M ts0 i con ts) {l : List UInt8} {id : Nat} (hid : M l = some id) {L' : List UInt8} (hq : (con id).2 < (con id).1.length) (hl : L'.length = (con id).2 + modN (ts.headD 0) ((con id).1.length - (con id).2 + 1))
    (hb : ts.tail.headD 0 = 1 → 1 ≤ modN (ts.headD 0) ((con id).1.length - (con id).2 + 1) → L'[(con id).2]? = some 0) : OneFile S M ts0 (i + 1) (fun x => if x = id then (L', L'.length) else con x) ts.tail.tail := fun id0 h1 h2 => by
  refine ⟨fun e => by omega, fun _ => ?_⟩
  obtain rfl := h1 l id hid
  simp only [if_true]
  obtain ⟨a, b⟩ := h id h1 h2
  rcases Nat.eq_zero_or_pos i with e | e
  · obtain ⟨c1, rfl⟩ := a e
    rw [← c1]
    exact ⟨rfl, fun h => by omega, fun _ => ⟨hl, hb⟩⟩
  · obtain ⟨c1, c2, c3⟩ := b e
    omega
def FactOn.cutF (A : Option Addr) (n c : Nat) : FactOn (Keep (fun _ => False)) := ⟨fun u _ => ∃ k : Nat, u = .slice (cutA A c k 1) (n - k) (c - k) ∧ k ≤ n, fun _ _ _ _ h => h⟩
def FactOn.backF (A : Option Addr) (n c b0 : Nat) : FactOn (Keep (fun _ => False)) :=
  ⟨fun u W => ∃ k B : Nat, u = .func (.func 44) #[] #[pg B] ∧ k ≤ n ∧ b0 ≤ B ∧ Blk W B 47 #[.slice (cutA A c k 1) (n - k) (c - k)], fun _ _ _ hk ⟨k, B, h1, h2, h3, h4⟩ => ⟨k, B, h1, h2, h3, hk.blk h4 (fun h => h)⟩⟩
set_option maxRecDepth 100000 in
set_option maxHeartbeats 4000000 in
theorem vWake_any (w : World) (g base : Nat) (room : Int) (S : St) (h : VAt w g base room S) (hb : base ≤ w.heap.size) (dirs : Int) (hdirs : -9223372036854775808 ≤ dirs ∧ dirs ≤ 9223372036854775807) (At : Option Addr) (nt ct Bt : Nat) (ts0 : List Int) (hnt : nt ≤ ct) (hct : ct ≤ maxLen)
    (hR : ∀ W', IntKeep base w W' → ReadsAt W' Bt 1 At nt (ts0.map (.int .i64 ·))) (hxt : ∀ x ∈ ts0, -9223372036854775808 ≤ x ∧ x ≤ 9223372036854775807) (hm : S.maps.length ≤ 1000000) (hn : S.n ≤ 900000000) :
    Calls Try.prog 12 #[pg g, .int .i64 dirs, .slice At nt ct] w fun e w' => ∃ x, e = .returned (.int .i64 x) ∧ WakeTo base g room S ts0 w x w' := by
  obtain ⟨hwf, mb, uv, fs, t, c, rv, hx⟩ := h
  obtain ⟨w1, hw1⟩ : ∃ w1, w.alloc (.cells #[.slice At nt ct] 23) = w1 := ⟨_, rfl⟩
  have hg1 : Grow w w1 := by rw [← hw1]; exact Grow.alloc _ _
  have hx1 := hx.grow hg1
  have Hup := Lib.hid (vup_any w1 g hx1.disk)
  cases hd : S.down with
  | false =>
    rw [hd] at Hup
    have HF := Lib.hid (show WakeTo base g room S ts0 w 11 w1 from ⟨IntKeep.grow hg1 hb, Or.inl ⟨hd, rfl, hwf, mb, uv, fs, t, c, rv, hx1⟩⟩)
    clear hx hx1 hwf hg1 hd hR hxt
    go_enter Try.func12, Try.ntmps12
    go_upto_region 1 with (fail)
    (try rw [hw1])
    clear hw1
    go_wp2_with fail
    refine Hup.out.mono ?_
    rintro e w2 ⟨rfl, rfl⟩
    go_wp2_with fail
    go_ret
    exact ⟨_, rfl, HF.out⟩
  | true =>
  rw [hd] at Hup
  obtain ⟨Au, cu, e0, hnu, hcu, -⟩ := own_reads hx1.undo
  obtain ⟨n, hnn⟩ : ∃ n, n = fs.length := ⟨_, rfl⟩
  rw [← hnn] at e0 hnu
  have hnm : n ≤ 1000000 := by rw [hnn, hx1.many]; exact hm
  have Hu := Lib.hid (show ∀ W, Grow w1 W → W.cell? ⟨g, 2, none⟩ = some (.slice Au n cu) from fun W h => by rw [← e0]; exact (hx1.disk.below h hx1.disk.lt).cell 2)
  have hadd : (n : Int) + 1 = ((n + 1 : Nat) : Int) := by omega
  have hwr : IntKind.i64.wrap ((n + 1 : Nat) : Int) = ((n + 1 : Nat) : Int) := IntWalk.i64_in _ (by omega)
  have Hmod := Lib.hid (fun W : World => vmodulo_any W dirs (n + 1) (by omega) (by omega) hdirs)
  obtain ⟨n1, hn1⟩ : ∃ n1 : Int, n1 = ((n + 1 : Nat) : Int) := ⟨_, rfl⟩
  rw [← hn1] at hadd hwr Hmod
  have hT1 : TearsAt base w w1 w.heap.size ts0 := ⟨At, nt, ct, Bt, by rw [← hw1]; exact Blk.new _ _ _, hnt, hct, hR, hxt⟩
  have Hg1 := Lib.hid hg1
  have HT1 := Lib.hid hT1
  have Hx1 := Lib.hid hx1
  have Hwf := Lib.hid hwf
  have Hd := Lib.hid hd
  have He0 := Lib.hid e0
  have Hnn := Lib.hid hnn
  have hc10 : True := trivial
  clear hx hx1 hwf hg1 hd hR hxt hT1 e0 hnn hn1
  refine (callsIn_wide (n := 8)).1 ?_
  refine callsIn_of_wp_marks Try.func12 rfl trivial ?_ rfl
  simp only [Try.ntmps12, List.size_toArray, List.length_cons, List.length_nil, Nat.reduceSub, Nat.reduceAdd, Array.replicate_succ, Array.replicate_zero, List.push_toArray, List.append_toArray, List.nil_append, List.cons_append]
  gi_wp2_with ((try rw [hw1]); refine ⟨trivial, ?_⟩; gi_at_call 32; refine CallsIn.mono (callsIn_wide.2 Hup.out) ?_; rintro e w1 ⟨rfl, rfl⟩)
  refine wpIn_wide.2 ?_
  go_cut [36] from 23 to 35 (fun v36 wx => ∃ (W : World) (k B : Nat), W = wx ∧ v36 = .func (.func 44) #[] #[pg B] ∧ k ≤ n ∧ w1.heap.size ≤ B ∧ Blk W B 47 #[.slice (cutA Au cu k 1) (n - k) (cu - k)] ∧ Grow w1 W)
  case first Jx Kx hJx hMx =>
    refine wp_region_stages (by kernel_rfl) ?_
    refine anyOrder_start [] (Keep (fun _ => False)) ((fun _ W => Grow w1 W)) (FactsOn [.is (.pointer (some ⟨g, 0, none⟩)), .is (.pointer (some ⟨g, 0, none⟩)), .is (.pointer (some ⟨g, 2, none⟩)), .is (.slice Au n cu), .is (.int .i64 dirs), .is (.pointer (some ⟨g, 0, none⟩)), .is (.pointer (some ⟨g, 0, none⟩)), .is (.pointer (some ⟨g, 2, none⟩)), .is (.slice Au n cu), .is (.int .i64 (n : Int)), .is (.int .i64 n1), .upTo n, .cutF Au n cu, .backF Au n cu w1.heap.size]) (fun i => 99) keep_trans keep_grow (fun _ _ _ hg h => Grow.trans h hg) (factsOn_mono _) (by kernel_rfl) (by kernel_rfl) (Grow.refl _) ?_ ?_
    · refine ⟨?_, ?_, ?_, ?_, ?_, ?_, ?_, ?_, ?_, ?_, ?_, ?_, ?_, ?_, trivial⟩
      · refine stageOf_free rfl (fun _ _ _ _ _ _ => wanted_none rfl) ?_
        intro us vals w3 a' ha hle hW hd hv K hK
        have q0 : a'.tmps[0]? = some (.pointer (some ⟨g, 0, none⟩)) := slot_old ha (by kernel_rfl) (by kernel_rfl)
        refine step_value (v := .pointer (some ⟨g, 0, none⟩)) (w2 := w3) ?_ (hK _ _ (Grow.refl _) rfl)
        go_simp
      · refine stageOf_free rfl (fun _ _ _ _ _ _ => wanted_none rfl) ?_
        intro us vals w3 a' ha hle hW hd hv K hK
        obtain ⟨d0, _⟩ := hd
        have q23 : a'.tmps[23]? = some (us 0) := slot_get ha 0 (by kernel_rfl) (by kernel_rfl)
        rw [show us 0 = .pointer (some ⟨g, 0, none⟩) from d0] at q23
        refine step_value (v := .pointer (some ⟨g, 0, none⟩)) (w2 := w3) ?_ (hK _ _ (Grow.refl _) rfl)
        go_simp
      · refine stageOf_free rfl (fun _ _ _ _ _ _ => wanted_none rfl) ?_
        intro us vals w3 a' ha hle hW hd hv K hK
        obtain ⟨d1, _⟩ := hd
        have q24 : a'.tmps[24]? = some (us 1) := slot_get ha 1 (by kernel_rfl) (by kernel_rfl)
        rw [show us 1 = .pointer (some ⟨g, 0, none⟩) from d1] at q24
        refine step_value (v := .pointer (some ⟨g, 2, none⟩)) (w2 := w3) ?_ (hK _ _ (Grow.refl _) rfl)
        go_simp
      · refine stageOf_free rfl (fun _ _ _ _ _ _ => wanted_none rfl) ?_
        intro us vals w3 a' ha hle hW hd hv K hK
        obtain ⟨d2, _⟩ := hd
        have q25 : a'.tmps[25]? = some (us 2) := slot_get ha 2 (by kernel_rfl) (by kernel_rfl)
        rw [show us 2 = .pointer (some ⟨g, 2, none⟩) from d2] at q25
        have hc := Hu.out w3 hW
        refine step_value (v := .slice Au n cu) (w2 := w3) ?_ (hK _ _ (Grow.refl _) rfl)
        go_simp
      · refine stageOf_free rfl (fun _ _ _ _ _ _ => wanted_none rfl) ?_
        intro us vals w3 a' ha hle hW hd hv K hK
        have q1 : a'.tmps[1]? = some (.int .i64 dirs) := slot_old ha (by kernel_rfl) (by kernel_rfl)
        refine step_value (v := .int .i64 dirs) (w2 := w3) ?_ (hK _ _ (Grow.refl _) rfl)
        go_simp
      · refine stageOf_free rfl (fun _ _ _ _ _ _ => wanted_none rfl) ?_
        intro us vals w3 a' ha hle hW hd hv K hK
        have q0 : a'.tmps[0]? = some (.pointer (some ⟨g, 0, none⟩)) := slot_old ha (by kernel_rfl) (by kernel_rfl)
        refine step_value (v := .pointer (some ⟨g, 0, none⟩)) (w2 := w3) ?_ (hK _ _ (Grow.refl _) rfl)
        go_simp
      · refine stageOf_free rfl (fun _ _ _ _ _ _ => wanted_none rfl) ?_
        intro us vals w3 a' ha hle hW hd hv K hK
        obtain ⟨d5, _⟩ := hd
        have q28 : a'.tmps[28]? = some (us 5) := slot_get ha 5 (by kernel_rfl) (by kernel_rfl)
        rw [show us 5 = .pointer (some ⟨g, 0, none⟩) from d5] at q28
        refine step_value (v := .pointer (some ⟨g, 0, none⟩)) (w2 := w3) ?_ (hK _ _ (Grow.refl _) rfl)
        go_simp
      · refine stageOf_free rfl (fun _ _ _ _ _ _ => wanted_none rfl) ?_
        intro us vals w3 a' ha hle hW hd hv K hK
        obtain ⟨d6, _⟩ := hd
        have q29 : a'.tmps[29]? = some (us 6) := slot_get ha 6 (by kernel_rfl) (by kernel_rfl)
        rw [show us 6 = .pointer (some ⟨g, 0, none⟩) from d6] at q29
        refine step_value (v := .pointer (some ⟨g, 2, none⟩)) (w2 := w3) ?_ (hK _ _ (Grow.refl _) rfl)
        go_simp
      · refine stageOf_free rfl (fun _ _ _ _ _ _ => wanted_none rfl) ?_
        intro us vals w3 a' ha hle hW hd hv K hK
        obtain ⟨d7, _⟩ := hd
        have q30 : a'.tmps[30]? = some (us 7) := slot_get ha 7 (by kernel_rfl) (by kernel_rfl)
        rw [show us 7 = .pointer (some ⟨g, 2, none⟩) from d7] at q30
        have hc := Hu.out w3 hW
        refine step_value (v := .slice Au n cu) (w2 := w3) ?_ (hK _ _ (Grow.refl _) rfl)
        go_simp
      · refine stageOf_free rfl (fun _ _ _ _ _ _ => wanted_none rfl) ?_
        intro us vals w3 a' ha hle hW hd hv K hK
        obtain ⟨d8, _⟩ := hd
        have q31 : a'.tmps[31]? = some (us 8) := slot_get ha 8 (by kernel_rfl) (by kernel_rfl)
        rw [show us 8 = .slice Au n cu from d8] at q31
        refine step_value (v := .int .i64 (n : Int)) (w2 := w3) ?_ (hK _ _ (Grow.refl _) rfl)
        go_simp
      · refine stageOf_free rfl (fun _ _ _ _ _ _ => wanted_none rfl) ?_
        intro us vals w3 a' ha hle hW hd hv K hK
        obtain ⟨d9, _⟩ := hd
        have q32 : a'.tmps[32]? = some (us 9) := slot_get ha 9 (by kernel_rfl) (by kernel_rfl)
        rw [show us 9 = .int .i64 (n : Int) from d9] at q32
        refine step_value (v := .int .i64 n1) (w2 := w3) ?_ (hK _ _ (Grow.refl _) rfl)
        go_simp
      · refine stageOf_free rfl (fun _ _ _ _ _ _ => wanted_none rfl) ?_
        intro us vals w3 a' ha hle hW hd hv K hK
        obtain ⟨d4, d10, _⟩ := hd
        have q27 : a'.tmps[27]? = some (us 4) := slot_get ha 4 (by kernel_rfl) (by kernel_rfl)
        rw [show us 4 = .int .i64 dirs from d4] at q27
        have q33 : a'.tmps[33]? = some (us 10) := slot_get ha 10 (by kernel_rfl) (by kernel_rfl)
        rw [show us 10 = .int .i64 n1 from d10] at q33
        refine step_call (f := 35) (args := #[.int .i64 dirs, .int .i64 n1]) (by go_simp) ?_
        refine (Hmod.out w3).mono ?_
        rintro e w4 ⟨k, hk, rfl, rfl, -⟩
        exact ⟨_, rfl, hK _ _ (Grow.refl _) ⟨k, rfl, by omega⟩⟩
      · refine stageOf_free rfl (fun _ _ _ _ _ _ => wanted_none rfl) ?_
        intro us vals w3 a' ha hle hW hd hv K hK
        obtain ⟨d3, ⟨r11, u11, k11⟩, _⟩ := hd
        have q26 : a'.tmps[26]? = some (us 3) := slot_get ha 3 (by kernel_rfl) (by kernel_rfl)
        rw [show us 3 = .slice Au n cu from d3] at q26
        have q34 : a'.tmps[34]? = some (us 11) := slot_get ha 11 (by kernel_rfl) (by kernel_rfl)
        rw [u11] at q34
        exact step_cut_tail funcsTy rfl q26 q34 r11 rfl k11 (hK _ _ (Grow.refl _) ⟨r11, rfl, k11⟩)
      · refine stageOf_free rfl (fun _ _ _ _ _ _ => wanted_none rfl) ?_
        intro us vals w3 a' ha hle hW hd hv K hK
        obtain ⟨⟨r12, u12, k12⟩, _, _⟩ := hd
        have q35 : a'.tmps[35]? = some (us 12) := slot_get ha 12 (by kernel_rfl) (by kernel_rfl)
        rw [u12] at q35
        refine step_call (f := 34) (args := #[.slice (cutA Au cu r12 1) (n - r12) (cu - r12)]) (by go_simp) ?_
        refine (vBackward_any _ _ _ w3).mono ?_
        rintro e w4 ⟨rfl, rfl⟩
        exact ⟨_, rfl, hK _ _ (Grow.alloc _ _) ⟨r12, w3.heap.size, rfl, k12, (show Grow w1 w3 from hW).size, Blk.new _ _ _⟩⟩
    · intro us vals w5 hle hvl hW ht hf
      obtain ⟨k, B, h1, h2, h3, h4⟩ := hf 13 (by decide) rfl
      exact hMx _ _ (Met.intro (hJx _ _ ⟨us 0, us 1, us 2, us 3, us 4, us 5, us 6, us 7, us 8, us 9, us 10, us 11, us 12, us 13, ⟨_, k, B, rfl, h1, h2, h3, h4, hW⟩, by kernel_rfl⟩))
  case rest =>
  obtain ⟨w5, k, B, rfl, rfl, hkn, hB, hBb, hg5⟩ := hcut
  gi_wp2_with fail
  refine rangeJ rfl (by omega) (gf := 44) (lb := #[pg B]) rfl trivial (enters_of Try.func44 (by kernel_rfl) rfl) ?_
  intro fn rec w6 _ hrec hg6 hz6 hD6 hlp6
  have hk6 : Keep (fun _ => False) w5 w6 := (Keep.grown hg6).mono fun j h => by cases h
  have hG6 : Grow w5 w6 := hk6.below (fun _ h => h.elim) (Nat.le_refl _)
  have hG16 : Grow w1 w6 := hg5.trans hG6
  have hx6 : VX w6 g base room S S.cur mb uv fs t c rv := Hx1.out.grow hG16
  have hall : S.all.length = n + 1 := by simp [St.all, Hnn.out, Hx1.out.many]
  have hJ0 : UndoI w6 S mb k n (w5.heap.size + 1) (.loop (rec .ready none)) (n - k) w6 := by
    refine ⟨hlp6, Keep.refl _ _, S.cur, ?_, hx6.map.more (Nat.le_add_right _ _)⟩
    have e : k + (n - k) = n := by omega
    rw [e]
    unfold St.all
    rw [List.getElem?_append_right (by rw [← Hx1.out.many, ← Hnn.out]; exact Nat.le_refl _), ← Hx1.out.many, ← Hnn.out, Nat.sub_self]
    rfl
  have hrow6 := hx6.undo
  rw [← Hnn.out] at hrow6
  have hR6 : ReadsAt w6 w6.heap.size 1 (cutA Au cu k 1) (n - k) (fs.drop k) := by
    obtain ⟨A', c', e', -, -, h⟩ := own_reads hrow6
    rw [He0.out] at e'
    injection e' with e1 _ e3
    subst e1 e3
    have := h.tail (c := cu) k hkn hnu
    rwa [Nat.mul_one] at this
  have hfun : ∀ x ∈ fs.drop k, ∃ kf caps, x = .func (.func kf) #[] caps := fun x hxm => by
    obtain ⟨j, hj⟩ := List.mem_iff_getElem?.1 (List.mem_of_mem_drop hxm)
    have hjl := (List.getElem?_eq_some_iff.1 hj).1
    have hnn := Hnn.out
    obtain ⟨M1, h1⟩ : ∃ M, S.all[j]? = some M := ⟨_, List.getElem?_eq_getElem (by omega)⟩
    obtain ⟨M2, h2⟩ : ∃ M, S.all[j + 1]? = some M := ⟨_, List.getElem?_eq_getElem (by omega)⟩
    cases hx6.back j x M1 M2 hj h1 h2 with
    | create => exact ⟨_, _, rfl⟩
    | remove => exact ⟨_, _, rfl⟩
    | rename => exact ⟨_, _, rfl⟩
  refine (vBack1_any 7 (by omega) (w5.heap.size + 1) B w6.heap.size (cutA Au cu k 1) (n - k) (cu - k) (fs.drop k) (by omega) (by omega) hfun (fun i W => UndoI w6 S mb k n (w5.heap.size + 1) (.loop (rec .ready none)) i W) ?yes w6 hR6 (Keep.blk hk6 hBb (fun h => h)) hJ0).mono ?_
  case yes =>
    intro i f W hif hJ hbx hrd
    have HR6 := Lib.hid hR6
    have hbB6 : Blk w6 B 47 #[.slice (cutA Au cu k 1) (n - k) (cu - k)] := Keep.blk hk6 hBb (fun h => h)
    have hrb : ∀ b off, cutA Au cu k 1 = some ⟨b, off, none⟩ → ∃ cs, Blk w6 b 1 cs := fun b off e => by
      have hA : ∃ a, Au = some a ∧ a.block = b := by
        unfold cutA at e
        split at e
        · exact ⟨_, e, rfl⟩
        · cases Au with
          | none => cases e
          | some a =>
            refine ⟨a, rfl, ?_⟩
            simp only [Option.map_some, Option.some.injEq] at e
            have h2 : (a.add (k * 1)).block = b := congrArg Addr.block e
            unfold Addr.add at h2
            split at h2 <;> exact h2
      obtain ⟨a, rfl, rfl⟩ := hA
      obtain ⟨cur, q⟩ := own_obj hrow6 (k := a.block) (by rw [He0.out]; rfl)
      exact ⟨cur, q⟩
    clear hJ0 hR6 hrow6
    obtain ⟨M2, hM2, hmap⟩ := hJ.map
    obtain ⟨kf, caps, rfl⟩ := hfun f (List.mem_of_getElem? hif)
    rw [List.getElem?_drop] at hif
    have hil := (List.getElem?_eq_some_iff.1 hif).1
    have hnn := Hnn.out
    obtain ⟨M1, hM1⟩ : ∃ M, S.all[k + i]? = some M := ⟨_, List.getElem?_eq_getElem (by omega)⟩
    have hil2 : k + i < n := by omega
    clear hnn hil
    have hU6 := hx6.back (k + i) _ M1 M2 hif hM1 hM2
    have hlpz : w6.heap[w5.heap.size + 1]? = some (.loop (rec .ready none)) := hlp6
    have hnc : ∀ {j ty : Nat} {cs : Array Value}, Blk w6 j ty cs → ¬ (j = mb ∨ j = w5.heap.size + 1) := fun hb e => by
      rcases e with e | e
      · exact hx6.map.ne hb e
      · rw [e] at hb
        have := (show w6.heap[w5.heap.size + 1]? = _ from hb).symm.trans hlpz
        cases this
    have hboxk : BoxKeep w6 W := BoxKeep.keep hJ.keep fun j cs ty hS hty hb => hnc hb hS
    have hd : Blk W g 51 _ := hJ.keep.blk hx6.disk (hnc hx6.disk)
    refine yieldJ trivial hrec hJ.loop rfl ?_
    gi_wp2
    refine roundBody.mk hJ.loop fun w8 hg8 hl8 => ?_
    have hk8 : Keep (fun j => j = w5.heap.size + 1) W w8 := (Keep.grown hg8).mono fun j hj => by injection hj with hj; exact Or.inl hj.symm
    have hnl : ∀ {j ty : Nat} {cs : Array Value}, Blk W j ty cs → ¬ (j = w5.heap.size + 1) := fun hb e => by
      rw [e] at hb
      have := (show W.heap[w5.heap.size + 1]? = _ from hb).symm.trans hJ.loop
      cases this
    have hmbl : ¬ (mb = w5.heap.size + 1) := fun e => by
      obtain ⟨es, clock, h1⟩ := hmap.obj
      rw [e, hJ.loop] at h1
      cases h1
    have hm8 := hmap.keep hk8 hmbl
    have hbk8 : BoxKeep W w8 := BoxKeep.keep hk8 fun j cs ty hS hty hb => hnl hb hS
    have hd8 := hk8.blk hd (hnl hd)
    have hnn2 : S.n + 2 * (n - k - (i + 1)) + 1 < maxLen := by unfold maxLen; omega
    obtain ⟨kf', caps', e', hcf, hcall⟩ := vundo_any w8 g mb (S.n + 2 * (n - k - (i + 1))) _ M2 M1 ((hU6.keep hboxk).keep hbk8) hd8 rfl hm8 hnn2
    injection e' with e1 _ e3
    injection e1 with e1
    subst e1 e3
    have Hcall := Lib.hid hcall
    have Hl8 := Lib.hid hl8
    have Hk8 := Lib.hid hk8
    have HJ := Lib.hid hJ
    have Hbx := Lib.hid hbx
    have Hrd := Lib.hid hrd
    clear hcall hl8 hJ hbx hrd hg8
    gi_wp2_with fail
    refine ⟨trivial, CallsIn.mono (CallsIn.inRound _ (callsIn_wide.2 Hcall.out)) ?_⟩
    rintro e w9 ⟨rfl, hm9, hk9⟩
    have hl9 := hk9.obj Hl8.out (fun e => hmbl e.symm)
    have Hm9 := Lib.hid hm9
    have Hk9 := Lib.hid hk9
    clear hm9 hk9
    gi_wp2_with fail
    refine roundEnd.on hl9 fun w10 hg10 hl10 => ?_
    have hk10 : Keep (fun j => j = w5.heap.size + 1) w9 w10 := (Keep.grown hg10).mono fun j hj => by injection hj with hj; exact Or.inl hj.symm
    have hkt : Keep (fun j => j = mb ∨ j = w5.heap.size + 1) w6 w10 := ((HJ.out.keep.trans' (Hk8.out.mono fun j hj => Or.inl (Or.inr hj))).trans' (Hk9.out.mono fun j hj => Or.inl (Or.inl hj))).trans' (hk10.mono fun j hj => Or.inl (Or.inr hj))
    refine ⟨rfl, ⟨hl10, hkt, M1, hM1, (Hm9.out.keep hk10 hmbl).more (by omega)⟩, hkt.blk hbB6 (hnc hbB6), HR6.out.blk fun b off e hbz => ?_⟩
    obtain ⟨cs, hcs⟩ := hrb b off e
    exact hkt.block b hcs.lt (hnc hcs)
  rintro e w7 ⟨⟨v7, rfl⟩, hJ7⟩
  refine ⟨v7, .ready, none, rfl, by decide, hJ7.loop, fun W8 hg8 => ?_⟩
  have hlpz : w6.heap[w5.heap.size + 1]? = some (.loop (rec .ready none)) := hlp6
  have hnc : ∀ (j ty : Nat) (cs : Array Value), Blk w6 j ty cs → ¬ (j = mb ∨ j = w5.heap.size + 1) := fun j ty cs hb e => by
    rcases e with e | e
    · exact hx6.map.ne hb e
    · rw [e] at hb
      have := (show w6.heap[w5.heap.size + 1]? = _ from hb).symm.trans hlpz
      cases this
  obtain ⟨M, hM, hmap⟩ := hJ7.map
  rw [Nat.add_zero] at hM
  have hMa : M ∈ S.all := List.mem_of_getElem? hM
  have hk78 : Keep (fun j => j = w5.heap.size + 1) w7 W8 := (Keep.grown hg8).mono fun j hj => by injection hj with hj; exact Or.inl hj.symm
  have hmbl : ¬ (mb = w5.heap.size + 1) := fun e => by
    obtain ⟨es, clock, h1⟩ := hmap.obj
    rw [e, hJ7.loop] at h1
    cases h1
  have hk68 : Keep (fun j => j = mb ∨ j = w5.heap.size + 1) w6 W8 := hJ7.keep.trans' (hk78.mono fun j hj => Or.inl (Or.inr hj))
  have hx8 : VX W8 g base room (S.nTo (S.n + 2 * (n - k - 0))) M mb uv fs t c rv := hx6.turnedT (S' := S.nTo (S.n + 2 * (n - k - 0))) hk68 hnc (hmap.keep hk78 hmbl) rfl rfl rfl rfl rfl rfl rfl
  have hD8 : W8.heap[w5.heap.size]? = some (.deferred (some [])) := hk68.obj hD6 (by
    rintro (e | e)
    · obtain ⟨es, clock, h1⟩ := hx6.map.obj
      rw [← e, hD6] at h1
      cases h1
    · omega)
  have hbx : ∀ {cs : Array Value}, Blk w1 w.heap.size 23 cs → Blk W8 w.heap.size 23 cs := fun hb => hk68.blk (hb.below hG16 hb.lt) (hnc _ _ _ (hb.below hG16 hb.lt))
  have HT8 := Lib.hid (show TearsAt base w W8 w.heap.size ts0 from by
    obtain ⟨A', n', c', B', h1, h2⟩ := HT1.out
    exact ⟨A', n', c', B', hbx h1, h2⟩)
  have HI8 := Lib.hid (show IntKeep base w W8 from ((IntKeep.grow Hg1.out hb).trans (IntKeep.grow hG16 (Nat.le_trans hb Hg1.out.size))).trans (IntKeep.keep hk68 (Nat.le_trans (Nat.le_trans hb Hg1.out.size) hG16.size) (fun j hj => by
    rcases hj with rfl | rfl
    · exact hx6.mge
    · have := Hg1.out.size
      have := hg5.size
      omega) (fun k cs hS hB => hnc _ _ _ hB hS)))
  have Hx8 := Lib.hid hx8
  have HD8 := Lib.hid hD8
  have HMa := Lib.hid hMa
  have hz8 : w6.heap.size ≤ W8.heap.size := hk68.size
  clear hbx hx8 hD8 hMa hk68 hk78 hmap hM hJ7 hnc hlpz hg8 hfun hR6 hrow6 hJ0 hall hx6 hk6 hlp6 hD6 hrec hg6 hg5 hG6
  have hbn := Blk.new W8 61 #[.nilFunc]
  have hcn := hbn.cell 0
  have hzn := hbn.frozen 0
  have hg89 : Grow W8 (W8.alloc (.cells #[.nilFunc] 61)) := Grow.alloc _ _
  obtain ⟨W10, hW10⟩ : ∃ W10, (W8.alloc (.cells #[.nilFunc] 61)).setCell ⟨W8.heap.size, 0, none⟩ (.func (.func 36) #[] #[pg w.heap.size]) = W10 := ⟨_, rfl⟩
  have hb10 : Blk W10 W8.heap.size 61 #[.func (.func 36) #[] #[pg w.heap.size]] := by rw [← hW10]; exact hbn.set 0 _
  have hk10 : Keep (fun _ => False) W8 W10 := by
    rw [← hW10]
    exact (Keep.grow hg89).trans (Keep.setCell _ ⟨W8.heap.size, 0, none⟩ _) fun j hj => Or.inr (by rw [hj]; exact Nat.le_refl _)
  have hG10 : Grow W8 W10 := hk10.below (fun _ h => h.elim) (Nat.le_refl _)
  have hst : (store ⟨W8.heap.size, 0, none⟩ (.func (.func 36) #[] #[pg w.heap.size])).run Try.prog (W8.alloc (.cells #[.nilFunc] 61)) = .ok () W10 := by
    rw [← hW10]
    refine (run_store _ _ _ _ _ rfl).trans ?_
    simp [hcn, hzn]
  have Hb10 := Lib.hid hb10
  have HG10 := Lib.hid hG10
  clear hbn hg89 hb10 hk10 hG10
  gi_wp2_with fail
  refine ⟨trivial, CallsIn.mono (callsIn_wide.2 (vnames_any g W10)) ?_⟩
  rintro e w' ⟨rfl, hw'⟩
  obtain ⟨W11, hW11⟩ : ∃ W11, w' = W11 := ⟨_, rfl⟩
  subst hW11
  have hbxn : Blk w' W10.heap.size 25 #[pg g] := by rw [← hw']; exact Blk.new _ _ _
  have hG11 : Grow W10 w' := by rw [← hw']; exact Grow.alloc _ _
  have Hbxn := Lib.hid hbxn
  have HG11 := Lib.hid hG11
  clear hw' hbxn hG11 hcn hzn hst
  gi_wp2_with fail
  refine rangeJ rfl (by omega) (gf := 45) (lb := #[pg W10.heap.size]) rfl trivial (enters_of Try.func45 (by kernel_rfl) rfl) ?_
  intro fn2 rec2 w12 _ hrec2 hg12 hz12 hD12 hlp12
  have hG12 : Grow w' w12 := ((Keep.grown hg12).mono (T := fun _ => False) fun j h => by cases h).below (fun _ h => h.elim) (Nat.le_refl _)
  have hG8 : Grow W8 w12 := (HG10.out.trans HG11.out).trans hG12
  have ho8 : ∀ {j : Nat} {o : Obj}, W8.heap[j]? = some o → w12.heap[j]? = some o := fun hj => (hG8.block _ (Array.getElem?_eq_some_iff.1 hj).1).trans hj
  have hJ0 : WakeI base w g room (S.nTo (S.n + 2 * (n - k - 0))) M mb uv fs t c w.heap.size W8.heap.size W10.heap.size (w'.heap.size + 1) w5.heap.size w'.heap.size ts0 (.loop (rec2 .ready none)) 0 w12 := by
    refine ⟨hlp12, ho8 HD8.out, hD12, ⟨S.con, rv, ts0, fun id hid => TornOk.refl (Hwf.out.safe id hid), HT8.out.keep (Keep.grow (S := fun _ => False) hG8) (fun e => e), fun id0 _ _ => ⟨fun _ => ⟨rfl, rfl⟩, fun h => by omega⟩, Hx8.out.grow hG8⟩, HI8.out.trans (IntKeep.grow hG8 (Nat.le_of_lt (Nat.lt_of_le_of_lt Hx8.out.ge Hx8.out.disk.lt))), ?_, ?_⟩
    · exact (Hb10.out.below HG11.out Hb10.out.lt).below hG12 ((Hb10.out.below HG11.out Hb10.out.lt).lt)
    · exact Hbxn.out.below hG12 Hbxn.out.lt
  refine (vnames1_any 7 (by omega) (w'.heap.size + 1) W10.heap.size g mb (S.nTo (S.n + 2 * (n - k - 0))).n M (by show S.n + 2 * (n - k - 0) ≤ _; omega) (fun i W => WakeI base w g room (S.nTo (S.n + 2 * (n - k - 0))) M mb uv fs t c w.heap.size W8.heap.size W10.heap.size (w'.heap.size + 1) w5.heap.size w'.heap.size ts0 (.loop (rec2 .ready none)) i W)
    (fun i W h => h.told) (fun i W W' h hg => h.grow hg) ?yes2 w12 hJ0).mono ?_
  case yes2 =>
    clear hJ0
    intro ix name id W hid hns hJ
    have hids : id ∈ S.ids := Hwf.out.refs M HMa.out _ _ hid
    refine yieldJ trivial hrec2 hJ.loop rfl ?_
    gi_wp2
    refine roundBody.mk hJ.loop fun w14 hg14 hl14 => ?_
    have hk14 : Keep (fun j => j = w'.heap.size + 1) W w14 := (Keep.grown hg14).mono fun j hj => by injection hj with hj; exact Or.inl hj.symm
    have hnl : ∀ (j ty : Nat) (cs : Array Value), Blk W j ty cs → ¬ (j = w'.heap.size + 1) := fun j ty cs hb e => by
      rw [e] at hb
      have := (show W.heap[w'.heap.size + 1]? = _ from hb).symm.trans hJ.loop
      cases this
    obtain ⟨con, rvv, ts, hcon, htears, hone, hvx⟩ := hJ.vx
    have Htears := Lib.hid htears
    have Hone := Lib.hid hone
    clear htears hone
    have Hid := Lib.hid hid
    have HfW := Lib.hid (hvx.file id hids).2
    have hmbl : ¬ (mb = w'.heap.size + 1) := fun e => by
      obtain ⟨es, clock, h1⟩ := hvx.map.obj
      rw [e, hJ.loop] at h1
      cases h1
    have hv14 := hvx.turnedT (S' := (S.nTo (S.n + 2 * (n - k - 0))).conTo con) hk14 hnl (hvx.map.keep hk14 hmbl) rfl rfl rfl rfl rfl rfl rfl
    obtain ⟨hidge, d, hf⟩ := hv14.file id hids
    have hrow := hv14.row id hids
    obtain ⟨Af, cf, ef, hncf, hcmf, -⟩ := own_reads hrow
    have hsafe : (con id).2 ≤ (con id).1.length := (hcon id hids).2.2.1
    have hlens : (con id).1.length ≤ 1000000 := Nat.le_trans (hcon id hids).1 (Hwf.out.lens id hids)
    have hloose := vloose_any w14 id (con id).1.length cf (con id).2 Af d (by
      have h := hf
      rw [ef] at h
      exact h) hsafe hlens
    have Hloose := Lib.hid hloose
    have Hv14 := Lib.hid hv14
    have Hl14 := Lib.hid hl14
    have Hk14 := Lib.hid hk14
    have HJ := Lib.hid hJ
    have Hcon := Lib.hid hcon
    have Hef := Lib.hid ef
    have Hf := Lib.hid hf
    have Hrow := Lib.hid hrow
    clear hloose hv14 hl14 hk14 hJ hcon ef hf hrow hvx hnl hg14
    gi_wp2_with fail
    refine ⟨trivial, CallsIn.mono (CallsIn.inRound _ (callsIn_wide.2 Hloose.out)) ?_⟩
    rintro e w15 ⟨rfl, hg15⟩
    have Hg15 := Lib.hid hg15
    clear hg15 Hloose
    obtain ⟨q, hq⟩ : ∃ q : Nat, q = (con id).1.length - (con id).2 := ⟨_, rfl⟩
    rw [← hq]
    have Hq := Lib.hid hq
    clear hq
    by_cases hq0 : q = 0
    · subst hq0
      have hsync := vdsync_any w15 id base _ _ _ d _ (Hf.out.below Hg15.out Hf.out.lt) (own_below Hrow.out Hg15.out)
      have Hsync := Lib.hid hsync
      clear hsync
      gi_wp2_with fail
      refine ⟨trivial, CallsIn.mono (CallsIn.inRound _ (callsIn_wide.2 Hsync.out)) ?_⟩
      rintro e w16 ⟨rfl, hf16, hk16⟩
      have Hf16 := Lib.hid hf16
      have Hk16 := Lib.hid hk16
      clear hf16 hk16
      gi_wp2_with fail
      have hlp15 := (Hg15.out.block _ (Array.getElem?_eq_some_iff.1 Hl14.out).1).trans Hl14.out
      refine roundEnd.on (Hk16.out.obj hlp15 (fun e => by
        have h := Hf.out
        rw [← e] at h
        have := (show w14.heap[w'.heap.size + 1]? = _ from h).symm.trans Hl14.out
        cases this)) fun w17 hg17 hl17 => ?_
      have hk17 : Keep (fun j => j = w'.heap.size + 1) w16 w17 := (Keep.grown hg17).mono fun j hj => by injection hj with hj; exact Or.inl hj.symm
      have hnl16 : ∀ (j ty : Nat) (cs : Array Value), Blk w16 j ty cs → ¬ (j = w'.heap.size + 1) := fun j ty cs hB e => by
        rw [e] at hB
        have h5 : w16.heap[w'.heap.size + 1]? = some (.loop (rec2 .busy none)) := Hk16.out.obj hlp15 (fun e => by
          have h := Hf.out
          rw [← e] at h
          have := (show w14.heap[w'.heap.size + 1]? = _ from h).symm.trans Hl14.out
          cases this)
        have := (show w16.heap[w'.heap.size + 1]? = _ from hB).symm.trans h5
        cases this
      have hv15 := Hv14.out.grow Hg15.out
      have hv16 := hv15.fileTo (p := ((con id).1, (con id).1.length)) (nv := rvv id) (d := d) hids (Hk16.out.mono fun j hj => Or.inl (Or.inl hj)) Hf16.out (Hk16.out.own (own_below Hrow.out Hg15.out) (fun j hj e => by
        have e : j = id := e
        subst e
        exact absurd (own_type_blk Hrow.out hj Hf.out) (by decide))) (fun b hb => Or.inl hb)
      have hv17 := hv16.turnedT (S' := ((S.nTo (S.n + 2 * (n - k - 0))).conTo con).setF id ((con id).1, (con id).1.length)) hk17 hnl16 (hv16.map.keep hk17 (fun e => by
        obtain ⟨es, clock, h1⟩ := hv16.map.obj
        rw [e] at h1
        have h5 : w16.heap[w'.heap.size + 1]? = some (.loop (rec2 .busy none)) := Hk16.out.obj hlp15 (fun e => by
          have h := Hf.out
          rw [← e] at h
          have := (show w14.heap[w'.heap.size + 1]? = _ from h).symm.trans Hl14.out
          cases this)
        rw [h5] at h1
        cases h1)) rfl rfl rfl rfl rfl rfl rfl
      have hkt : Keep (fun j => j = w'.heap.size + 1 ∨ j = id) W w17 := (((Hk14.out.mono fun j hj => Or.inl (Or.inl hj)).trans' (Keep.grow Hg15.out)).trans' (Hk16.out.mono fun j hj => Or.inl (Or.inr hj))).trans' (hk17.mono fun j hj => Or.inl (Or.inl hj))
      obtain ⟨A', n', c', B', hbT, -⟩ := Htears.out
      obtain ⟨dW, hfW⟩ := HfW.out
      have hnt : ¬ (w.heap.size = w'.heap.size + 1 ∨ w.heap.size = id) := fun e => by
        rcases e with e | e
        · rw [e] at hbT
          have := (show W.heap[w'.heap.size + 1]? = _ from hbT).symm.trans HJ.out.loop
          cases this
        · rw [e] at hbT
          have := (show W.heap[id]? = _ from hbT).symm.trans hfW
          injection this with this
          injection this with _ this _
          exact absurd this (by decide)
      refine ⟨rfl, HJ.out.turn ⟨_, rfl⟩ hfW hbT hidge hb ?_ (hkt.mono fun j hj => Or.inl (hj.elim Or.inl fun e => Or.inr (Or.inl e))) hl17 ⟨fun x => if x = id then ((con id).1, (con id).1.length) else con x, _, ts, fun x hx => ?_, Htears.out.keep hkt hnt, ?_, hv17⟩⟩
      · have := HG10.out.size
        have := HG11.out.size
        have := Hx8.out.ge
        have := Hx8.out.disk.lt
        omega
      · by_cases e : x = id
        · subst e
          simp only [if_true]
          exact (Hcon.out x hx).trans ⟨Nat.le_refl _, hsafe, Nat.le_refl _, rfl, fun _ => rfl⟩
        · simp only [e, if_false]
          exact Hcon.out x hx
      · exact OneFile.full Hone.out Hid.out (by have := Hq.out; omega)
    · have hqb : 1 ≤ q ∧ q ≤ 1000000 := by
        have := Hq.out
        omega
      have hgq : decide ((0 : Int) < (q : Int)) = true := decide_eq_true (by omega)
      have hgq2 : decide (0 < q) = true := decide_eq_true (by omega)
      have hqadd : (q : Int) + 1 = ((q + 1 : Nat) : Int) := by omega
      have hwrq : IntKind.i64.wrap ((q + 1 : Nat) : Int) = ((q + 1 : Nat) : Int) := IntWalk.i64_in _ (by omega)
      have hk15 : Keep (fun j => j = w'.heap.size + 1) W w15 := Hk14.out.trans' (Keep.grow Hg15.out)
      obtain ⟨A', n', c', B', hbT, -⟩ := Htears.out
      have hcl15 := hk15.blk HJ.out.clos (fun e => by
        have h := HJ.out.clos
        rw [e] at h
        have := (show W.heap[w'.heap.size + 1]? = _ from h).symm.trans HJ.out.loop
        cases this)
      have hcc := hcl15.cell 0
      obtain ⟨q1, hq1⟩ : ∃ q1 : Int, q1 = ((q + 1 : Nat) : Int) := ⟨_, rfl⟩
      have Hmodq := Lib.hid (fun (W : World) (a : Int) (h1 : -9223372036854775808 ≤ a) (h2 : a ≤ 9223372036854775807) => vmodulo_any W a (q + 1) (by omega) (by omega) ⟨h1, h2⟩)
      rw [← hq1] at hqadd hwrq Hmodq
      have hlpb : base ≤ w'.heap.size + 1 := by
        have := HG10.out.size
        have := HG11.out.size
        have := Hx8.out.ge
        have := Hx8.out.disk.lt
        omega
      have hnlp : ∀ (j ty : Nat) (cs : Array Value), Blk W j ty cs → ¬ (j = w'.heap.size + 1) := fun j ty cs hB e => by
        rw [e] at hB
        have := (show W.heap[w'.heap.size + 1]? = _ from hB).symm.trans HJ.out.loop
        cases this
      have hI15 : IntKeep base w w15 := HJ.out.ik.trans (IntKeep.keep hk15 HJ.out.base_le (fun j hj => by rw [hj]; exact hlpb) (fun k cs hS hB => hnlp _ _ _ hB hS))
      have hT15 : TearsAt base w w15 w.heap.size ts := Htears.out.keep hk15 (fun e => hnlp _ _ _ hbT e)
      have Hnext := Lib.hid (vnext_any base w.heap.size w w15 hI15 ts hT15 (Nat.le_trans HJ.out.base_le hk15.size))
      have HI15 := Lib.hid hI15
      have Hk15 := Lib.hid hk15
      clear hq1 hI15 hT15 hk15
      gi_wp2_with fail
      refine ⟨trivial, CallsIn.mono (CallsIn.inRound _ (callsIn_wide.2 Hnext.out)) ?_⟩
      rintro e w16 ⟨i1, rfl, hi1, hi2, hT16, hk16, hi1e⟩
      have Hi1e := Lib.hid hi1e
      clear hi1e
      have HT16 := Lib.hid hT16
      have Hk16 := Lib.hid hk16
      clear hT16 hk16 hcc Hnext
      gi_wp2_with fail
      refine ⟨trivial, CallsIn.mono (CallsIn.inRound _ (callsIn_wide.2 (Hmodq.out w16 i1 hi1 hi2))) ?_⟩
      rintro e w17 ⟨many, hmany, rfl, hw17, hmanye⟩
      have Hmanye := Lib.hid hmanye
      clear hmanye
      subst hw17
      gi_wp2_with fail
      clear Hmodq hcl15
      obtain ⟨hf17, hrow17⟩ : Blk w17 id 58 #[rvv id, .int .i64 ((con id).2 : Int), .bool d] ∧ w17.ownsRow base 5 1 (rvv id) (con id).1.length ((con id).1.map b8) := by
        have hTc := Hk15.out.blk hbT (hnlp _ _ _ hbT)
        have hf15 := Hf.out.below Hg15.out Hf.out.lt
        refine ⟨Hk16.out.blk hf15 (fun e => ?_), Hk16.out.own (own_below Hrow.out Hg15.out) (fun j hj e => ?_)⟩
        · rw [e] at hf15
          have := (show w15.heap[w.heap.size]? = _ from hf15).symm.trans hTc
          injection this with this
          injection this with _ this _
          exact absurd this (by decide)
        · have e : j = w.heap.size := e
          subst e
          exact absurd (own_type_blk (own_below Hrow.out Hg15.out) hj hTc) (by decide)
      have hcl17 : Blk w17 W8.heap.size 61 #[.func (.func 36) #[] #[pg w.heap.size]] := by
        have hTc := Hk15.out.blk hbT (hnlp _ _ _ hbT)
        have h15 := Hk15.out.blk HJ.out.clos (hnlp _ _ _ HJ.out.clos)
        refine Hk16.out.blk h15 (fun e => ?_)
        rw [e] at h15
        have := (show w15.heap[w.heap.size]? = _ from h15).symm.trans hTc
        injection this with this
        injection this with _ this _
        exact absurd this (by decide)
      have hT17 := HT16.out
      obtain ⟨A7, n7, c7, B7, hbT7, -⟩ := HT16.out
      have hI17 : IntKeep base w w17 := HI15.out.trans (IntKeep.keep Hk16.out (Nat.le_trans HJ.out.base_le Hk15.out.size) (fun j hj => by rw [hj]; exact hb) (fun k cs hS hB => by
        have hTc := Hk15.out.blk hbT (hnlp _ _ _ hbT)
        rw [hS] at hB
        have := (show w15.heap[w.heap.size]? = _ from hB).symm.trans hTc
        injection this with this
        injection this with _ this _
        exact absurd this (by decide)))
      have hb17 : base ≤ w17.heap.size := Nat.le_trans (Nat.le_trans HJ.out.base_le Hk15.out.size) Hk16.out.size
      have Hnx := Lib.hid (show ∀ W, Grow w17 W → Calls Try.prog 36 #[pg w.heap.size] W fun e w' => ∃ i : Int, e = .returned (.int .i64 i) ∧ -9223372036854775808 ≤ i ∧ i ≤ 9223372036854775807 ∧ TearsAt base w w' w.heap.size ts.tail.tail ∧ Keep (fun j => j = w.heap.size) W w' ∧ i = ts.tail.headD 0 from fun W hg => vnext_any base w.heap.size w W (hI17.trans (IntKeep.grow hg hb17)) ts.tail (hT17.keep (Keep.grow (S := fun _ => False) hg) (fun e => e)) (Nat.le_trans hb17 hg.size))
      have hneb : ∀ {k ty : Nat} {cs : Array Value}, Blk w17 k ty cs → ty ≠ 23 → ¬ (k = w.heap.size) := fun hB ht e => by
        rw [e] at hB
        have := (show w17.heap[w.heap.size]? = _ from hB).symm.trans hbT7
        injection this with this
        injection this with _ this _
        exact ht this
      have hnef : ∀ {k ty : Nat} {cs : Array Value}, Blk w17 k ty cs → ty ≠ 58 → ¬ (k = id) := fun hB ht e => by
        rw [e] at hB
        have := (show w17.heap[id]? = _ from hB).symm.trans hf17
        injection this with this
        injection this with _ this _
        exact ht this
      have Htear := Lib.hid (show ∀ W, Keep (fun j => j = w.heap.size) w17 W → ∀ i : Int, -9223372036854775808 ≤ i → i ≤ 9223372036854775807 → Calls Try.prog 39 #[pg id, .int .i64 (many : Int), .int .i64 i] W fun e w' => e = .returned (.tuple #[]) ∧ ∃ (v : Value) (L' : List UInt8), Blk w' id 58 #[v, .int .i64 ((con id).2 : Int), .bool d] ∧ w'.ownsRow W.heap.size 5 1 v L'.length (L'.map b8) ∧ L'.length = (con id).2 + many ∧ L'.take (con id).2 = (con id).1.take (con id).2 ∧ (i = 1 → 1 ≤ many → L'[(con id).2]? = some 0) ∧ Keep (fun j => j = id) W w' from fun W hk i h1 h2 => by
        have hfW := hk.blk hf17 (hneb hf17 (by decide))
        have hrW := hk.own hrow17 (fun j hj e => by
          have e : j = w.heap.size := e
          subst e
          exact absurd (own_type_blk hrow17 hj hbT7) (by decide))
        rw [Hef.out] at hfW hrW
        exact vtear_any W id base _ _ _ many i _ d _ hfW hrW rfl (show (con id).2 + many ≤ (con id).1.length from by have := Hq.out; have hmany2 : many < q + 1 := hmany; omega) hlens ⟨h1, h2⟩)
      have HC17 := Lib.hid (show ∀ W, Keep (fun j => j = w.heap.size ∨ j = id) w17 W → W.cell? ⟨W8.heap.size, 0, none⟩ = some (.func (.func 36) #[] #[pg w.heap.size]) from fun W hk => (hk.blk hcl17 (fun e => e.elim (hneb hcl17 (by decide)) (hnef hcl17 (by decide)))).cell 0)
      have Hf17 := Lib.hid hf17
      have Hrow17 := Lib.hid hrow17
      have Hnef := Lib.hid (show ¬ (w'.heap.size + 1 = id) from fun e => by
        have h := Hf.out
        rw [← e] at h
        have := (show w14.heap[w'.heap.size + 1]? = _ from h).symm.trans Hl14.out
        cases this)
      have Hneb := Lib.hid (show ¬ (w'.heap.size + 1 = w.heap.size) from fun e => by
        rw [← e] at hbT
        have := (show W.heap[w'.heap.size + 1]? = _ from hbT).symm.trans HJ.out.loop
        cases this)
      have HbT := Lib.hid hbT
      clear hf17 hrow17 hcl17 hT17 hI17 hneb hnef hbT7 hbT
      refine wpIn_region_stages (by kernel_rfl) (by kernel_rfl) ?_
      refine anyOrder_start [5, 6] (Keep (fun j => j = w.heap.size ∨ j = id)) (nextW base w w17 w.heap.size id (con id).2 many d (con id).1 ts.tail) (FactsOn [.is (.pointer (some ⟨id, 0, none⟩)), .is (.pointer (some ⟨id, 0, none⟩)), .is (.pointer (some ⟨id, 0, none⟩)), .is (.int .i64 (many : Int)), .is (.func (.func 36) #[] #[pg w.heap.size]), .any, .any]) (fun i => 99) keep_trans keep_grow (nextW.grow) (factsOn_mono _) (by kernel_rfl) (by kernel_rfl) (Grow.refl _) ?_ ?_
      · refine ⟨?_, ?_, ?_, ?_, ?_, ?_, ?_, trivial⟩
        · refine stageOf_free rfl (fun _ _ _ _ _ _ => wanted_none rfl) ?_
          intro us vals w3 a' ha hle hW hd hv K hK
          have q12 : a'.tmps[12]? = some (pg id) := slot_old ha (by kernel_rfl) (by kernel_rfl)
          refine step_value (v := .pointer (some ⟨id, 0, none⟩)) (w2 := w3) ?_ (hK _ _ (Grow.refl _) rfl)
          go_simp
        · refine stageOf_free rfl (fun _ _ _ _ _ _ => wanted_none rfl) ?_
          intro us vals w3 a' ha hle hW hd hv K hK
          obtain ⟨d0, _⟩ := hd
          have q57 : a'.tmps[57]? = some (us 0) := slot_get ha 0 (by kernel_rfl) (by kernel_rfl)
          rw [show us 0 = .pointer (some ⟨id, 0, none⟩) from d0] at q57
          refine step_value (v := .pointer (some ⟨id, 0, none⟩)) (w2 := w3) ?_ (hK _ _ (Grow.refl _) rfl)
          go_simp
        · refine stageOf_free rfl (fun _ _ _ _ _ _ => wanted_none rfl) ?_
          intro us vals w3 a' ha hle hW hd hv K hK
          obtain ⟨d1, _⟩ := hd
          have q58 : a'.tmps[58]? = some (us 1) := slot_get ha 1 (by kernel_rfl) (by kernel_rfl)
          rw [show us 1 = .pointer (some ⟨id, 0, none⟩) from d1] at q58
          refine step_value (v := .pointer (some ⟨id, 0, none⟩)) (w2 := w3) ?_ (hK _ _ (Grow.refl _) rfl)
          go_simp
        · refine stageOf_free rfl (fun _ _ _ _ _ _ => wanted_none rfl) ?_
          intro us vals w3 a' ha hle hW hd hv K hK
          have q14 : a'.tmps[14]? = some (.int .i64 (many : Int)) := slot_old ha (by kernel_rfl) (by kernel_rfl)
          refine step_value (v := .int .i64 (many : Int)) (w2 := w3) ?_ (hK _ _ (Grow.refl _) rfl)
          go_simp
        · refine stageOf_free rfl (fun _ _ _ _ _ _ => wanted_none rfl) ?_
          intro us vals w3 a' ha hle hW hd hv K hK
          have q10 : a'.tmps[10]? = some (.pointer (some ⟨W8.heap.size, 0, none⟩)) := slot_old ha (by kernel_rfl) (by kernel_rfl)
          have hc := HC17.out w3 hle
          refine step_value (v := .func (.func 36) #[] #[pg w.heap.size]) (w2 := w3) ?_ (hK _ _ (Grow.refl _) rfl)
          go_simp
        · refine stageOf_mem (t := 0) rfl ?_
          intro us vals w3 a' ha hle hW hd hv
          obtain ⟨d4, _⟩ := hd
          obtain rfl := List.eq_nil_of_length_eq_zero (Nat.le_zero.1 (show vals.length ≤ 0 from Nat.le_of_eq hv))
          refine ⟨wanted_none rfl, fun K hK => ?_⟩
          have q61 : a'.tmps[61]? = some (us 4) := slot_get ha 4 (by kernel_rfl) (by kernel_rfl)
          rw [show us 4 = .func (.func 36) #[] #[pg w.heap.size] from d4] at q61
          refine step_call (f := 36) (args := #[pg w.heap.size]) (by go_simp) ?_
          refine (Hnx.out w3 hW).mono ?_
          rintro e w4 ⟨i, rfl, h1, h2, h3, h4, h5⟩
          exact ⟨_, rfl, hK _ _ (h4.mono fun j hj => Or.inl (Or.inl hj)) ⟨i, rfl, h1, h2, h3, (Keep.grow hW).trans' h4, h5⟩⟩
        · refine stageOf_mem (t := 1) rfl ?_
          intro us vals w3 a' ha hle hW hd hv
          obtain ⟨d2, d3, d5, _, _⟩ := hd
          obtain ⟨x0, rfl⟩ := List.length_eq_one_iff.1 hv
          obtain rfl : us 5 = x0 := by have h0 : some x0 = some (us 5) := d5; injection h0 with h0; exact h0.symm
          refine ⟨wanted_none rfl, fun K hK => ?_⟩
          have q59 : a'.tmps[59]? = some (us 2) := slot_get ha 2 (by kernel_rfl) (by kernel_rfl)
          rw [show us 2 = .pointer (some ⟨id, 0, none⟩) from d2] at q59
          have q60 : a'.tmps[60]? = some (us 3) := slot_get ha 3 (by kernel_rfl) (by kernel_rfl)
          rw [show us 3 = .int .i64 (many : Int) from d3] at q60
          have q62 : a'.tmps[62]? = some (us 5) := slot_get ha 5 (by kernel_rfl) (by kernel_rfl)
          obtain ⟨i, e5, h1, h2, h3, h4, hie⟩ := hW
          rw [e5] at q62
          refine step_call (f := 39) (args := #[pg id, .int .i64 (many : Int), .int .i64 i]) (by go_simp) ?_
          refine (Htear.out w3 h4 i h1 h2).mono ?_
          rintro e w4 ⟨rfl, v, L2, h5, h6, h7, h8, h10, h9⟩
          exact ⟨_, rfl, hK _ _ (h9.mono fun j hj => Or.inl (Or.inr hj)) ⟨w3, h3, h4, v, L2, h5, h6, h7, h8, by rw [← hie]; exact h10, h9⟩⟩
      · intro us vals w18 hle hvl hV hv hf
        obtain ⟨a0, a1, rfl⟩ : ∃ a0 a1, vals = [a0, a1] := by match vals, hvl with | [a0, a1], _ => exact ⟨a0, a1, rfl⟩
        obtain ⟨Wm, hTm, hkm, rv2, L', hf18, hr18, hL', htk, hbit, hk18⟩ := hV
        have Hbit := Lib.hid hbit
        clear hbit
        have hrm := own_base hr18 (Nat.le_trans hb17 hkm.size)
        have hsync := vdsync_any w18 id base _ _ _ d _ hf18 hrm
        have Hsync := Lib.hid hsync
        have Hf18 := Lib.hid hf18
        have HTm := Lib.hid hTm
        have Hkm := Lib.hid hkm
        have Hr18 := Lib.hid hr18
        have Hk18 := Lib.hid hk18
        have HL' := Lib.hid hL'
        have Htk := Lib.hid htk
        clear hsync hTm hkm hf18 hr18 hL' htk hk18 hf hv hle hvl hrm
        simp only [fills, Act.put, List.setIfInBounds_toArray, List.set_cons_succ, List.set_cons_zero, Exit.then]
        gi_wp2_with fail
        refine ⟨trivial, CallsIn.mono (CallsIn.inRound _ (callsIn_wide.2 Hsync.out)) ?_⟩
        rintro e w19 ⟨rfl, hf19, hk19⟩
        have Hf19 := Lib.hid hf19
        have Hk19 := Lib.hid hk19
        clear hf19 hk19
        gi_wp2_with fail
        have hlp15 : w15.heap[w'.heap.size + 1]? = some (.loop (rec2 .busy none)) := (Hg15.out.block _ (Array.getElem?_eq_some_iff.1 Hl14.out).1).trans Hl14.out
        have hlp19 := Hk19.out.obj (Hk18.out.obj (Hkm.out.obj (Hk16.out.obj hlp15 Hneb.out) Hneb.out) Hnef.out) Hnef.out
        refine roundEnd.on hlp19 fun w22 hg22 hl22 => ?_
        have hk22 : Keep (fun j => j = w'.heap.size + 1) w19 w22 := (Keep.grown hg22).mono fun j hj => by injection hj with hj; exact Or.inl hj.symm
        have hnl19 : ∀ (j ty : Nat) (cs : Array Value), Blk w19 j ty cs → ¬ (j = w'.heap.size + 1) := fun j ty cs hB e => by
          rw [e] at hB
          have := (show w19.heap[w'.heap.size + 1]? = _ from hB).symm.trans hlp19
          cases this
        obtain ⟨dW, hfW⟩ := HfW.out
        have hbT15 := Hk15.out.blk HbT.out (hnlp _ _ _ HbT.out)
        have hvm := (Hv14.out.grow Hg15.out).keepInts hbT15 (Hk16.out.trans' Hkm.out)
        have hrs := Hk19.out.own (own_base Hr18.out (Nat.le_trans hb17 Hkm.out.size)) (fun j hj e => by
          have e : j = id := e
          subst e
          exact absurd (own_type_blk Hr18.out hj Hf18.out) (by decide))
        have hv19 := hvm.fileTo (p := (L', L'.length)) (nv := rv2) (d := d) hids ((Hk18.out.trans' Hk19.out).mono fun j hj => Or.inl (Or.inl hj)) Hf19.out hrs (fun b hb => Or.inr (Hr18.out.lt b hb).1)
        have hv22 := hv19.turnedT (S' := ((S.nTo (S.n + 2 * (n - k - 0))).conTo con).setF id (L', L'.length)) hk22 hnl19 (hv19.map.keep hk22 (fun e => by
          obtain ⟨es, clock, h1⟩ := hv19.map.obj
          rw [e, hlp19] at h1
          cases h1)) rfl rfl rfl rfl rfl rfl rfl
        have hkt : Keep (fun j => j = w'.heap.size + 1 ∨ j = id ∨ j = w.heap.size) W w22 := ((((Hk15.out.mono fun j hj => Or.inl (Or.inl hj)).trans' (Hk16.out.mono fun j hj => Or.inl (Or.inr (Or.inr hj)))).trans' (Hkm.out.mono fun j hj => Or.inl (Or.inr (Or.inr hj)))).trans' ((Hk18.out.trans' Hk19.out).mono fun j hj => Or.inl (Or.inr (Or.inl hj)))).trans' (hk22.mono fun j hj => Or.inl (Or.inl hj))
        have hbid : ¬ (w.heap.size = id) := fun e => by
          have h := HbT.out
          rw [e] at h
          have := (show W.heap[id]? = _ from h).symm.trans hfW
          injection this with this
          injection this with _ this _
          exact absurd this (by decide)
        refine ⟨rfl, HJ.out.turn ⟨_, rfl⟩ hfW HbT.out hidge hb hlpb hkt hl22 ⟨fun x => if x = id then (L', L'.length) else con x, _, ts.tail.tail, fun x hx => ?_, (HTm.out.keep (Hk18.out.trans' Hk19.out) hbid).keep hk22 (fun e => Hneb.out e.symm), ?_, hv22⟩⟩
        rotate_left
        · exact OneFile.torn Hone.out Hid.out (by have := Hq.out; omega) (by rw [HL'.out, Hmanye.out, Hi1e.out, Hq.out]) (by rw [← Hi1e.out, ← Hq.out, ← Hmanye.out]; exact Hbit.out)
        by_cases e : x = id
        · subst e
          simp only [if_true]
          have hq := Hq.out
          have hl := HL'.out
          have hmany2 : many < q + 1 := hmany
          exact (Hcon.out x hx).trans ⟨by show L'.length ≤ _; omega, by show (con x).2 ≤ L'.length; omega, Nat.le_refl _, Htk.out, fun h => by omega⟩
        · simp only [e, if_false]
          exact Hcon.out x hx
  rintro e w20 ⟨⟨v20, rfl⟩, ix, hJ20, hix⟩
  refine ⟨v20, .ready, none, rfl, by decide, hJ20.loop, fun w21 hg21 => ?_⟩
  have hk21 : Keep (fun j => j = w'.heap.size + 1) w20 w21 := (Keep.grown hg21).mono fun j hj => by injection hj with hj; exact Or.inl hj.symm
  obtain ⟨con, rv9, ts9, hcon, -, hone, hvx⟩ := hJ20.vx
  have hnl20 : ∀ (j ty : Nat) (cs : Array Value), Blk w20 j ty cs → ¬ (j = w'.heap.size + 1) := fun j ty cs hB e => by
    rw [e] at hB
    have := (show w20.heap[w'.heap.size + 1]? = _ from hB).symm.trans hJ20.loop
    cases this
  have hv21 := hvx.turnedT (S' := (S.nTo (S.n + 2 * (n - k - 0))).conTo con) hk21 hnl20 (hvx.map.keep hk21 (fun e => by
    obtain ⟨es, clock, h1⟩ := hvx.map.obj
    rw [e, hJ20.loop] at h1
    cases h1)) rfl rfl rfl rfl rfl rfl rfl
  have hne1 : ∀ {j : Nat}, w20.heap[j]? = some (.deferred (some [])) → ¬ (j = w'.heap.size + 1) := fun h e => by
    rw [e, hJ20.loop] at h
    cases h
  have hlpb : base ≤ w'.heap.size + 1 := by
    have := HG10.out.size
    have := HG11.out.size
    have := Hx8.out.ge
    have := Hx8.out.disk.lt
    omega
  have hD1 := hk21.obj hJ20.def1 (hne1 hJ20.def1)
  have hD2 := hk21.obj hJ20.def2 (hne1 hJ20.def2)
  have hI21 : IntKeep base w w21 := hJ20.ik.trans (IntKeep.keep hk21 hJ20.base_le (fun j hj => by rw [hj]; exact hlpb) (fun k cs hS hB => hnl20 _ _ _ hB hS))
  have hdk := hv21.disk
  have hc2 : w21.cell? ⟨g, 2, none⟩ = some uv := hdk.cell 2
  have hc3 : w21.cell? ⟨g, 3, none⟩ = some (.int .i64 (S.armed : Int)) := hdk.cell 3
  have hc4 : w21.cell? ⟨g, 4, none⟩ = some (.int .i64 (S.full : Int)) := hdk.cell 4
  have hc10 : w21.cell? ⟨g, 10, none⟩ = some (.bool S.down) := hdk.cell 10
  have hf2 := hdk.frozen 2
  have hf3 := hdk.frozen 3
  have hf4 := hdk.frozen 4
  have hf10 := hdk.frozen 10
  have Hb5 := Lib.hid ((((hdk.set 2 (.slice none 0 0)).set 3 (.int .i64 0)).set 4 (.int .i64 0)).set 10 (.bool false))
  have Hv21 := Lib.hid hv21
  have HD1 := Lib.hid hD1
  have HD2 := Lib.hid hD2
  have HI21 := Lib.hid hI21
  have Hcon := Lib.hid hcon
  have Hone := Lib.hid (show ∀ id0, (∀ l id, M l = some id → id = id0) → (∃ l, M l = some id0) → Torn1 (S.con id0) ts0 (con id0) from fun id0 h1 h2 => by
    obtain ⟨l, hl⟩ := h2
    exact (hone id0 h1 (Hwf.out.refs M HMa.out _ _ hl)).2 (hix l id0 hl))
  clear hone hix
  clear hdk hv21 hD1 hD2 hI21 hcon hvx hJ20 hnl20 hne1 hk21 hg21 hJ0 ho8 hG8 hG12 hlp12 hD12 hz12 hg12 hrec2
  simp only [Exit.inBlock, Exit.then]
  gi_wp2_with fail
  have hs9 : Keep (fun j => j = g) w21 ((((w21.setCell ⟨g, 2, none⟩ (.slice none 0 0)).setCell ⟨g, 3, none⟩ (.int .i64 0)).setCell ⟨g, 4, none⟩ (.int .i64 0)).setCell ⟨g, 10, none⟩ (.bool false)) :=
    (((Keep.setCell w21 ⟨g, 2, none⟩ (.slice none 0 0)).trans' (Keep.setCell _ ⟨g, 3, none⟩ (.int .i64 0))).trans' (Keep.setCell _ ⟨g, 4, none⟩ (.int .i64 0))).trans' (Keep.setCell _ ⟨g, 10, none⟩ (.bool false))
  have Hb6 := Hb5.out
  clear hc2 hc3 hc4 hc10 hf2 hf3 hf4 hf10 Hb5
  obtain ⟨W9, hW9⟩ : ∃ W9, (((w21.setCell ⟨g, 2, none⟩ (.slice none 0 0)).setCell ⟨g, 3, none⟩ (.int .i64 0)).setCell ⟨g, 4, none⟩ (.int .i64 0)).setCell ⟨g, 10, none⟩ (.bool false) = W9 := ⟨_, rfl⟩
  rw [hW9] at hs9 Hb6 ⊢
  clear hW9
  have hv9 := Hv21.out.wakes hs9 Hb6
  have hdg : ∀ {j : Nat}, w21.heap[j]? = some (.deferred (some [])) → ¬ (j = g) := fun h e => by
    rw [e] at h
    have := (show w21.heap[g]? = _ from Hv21.out.disk).symm.trans h
    cases this
  have hE1 := hs9.obj HD1.out (hdg HD1.out)
  have hE2 := hs9.obj HD2.out (hdg HD2.out)
  have hz1 := HG10.out.size
  have hz2 := HG11.out.size
  have hg8 := Hx8.out.ge
  have hg8l := Hx8.out.disk.lt
  have hz3 := Hg1.out.size
  have hw5 : w1.heap.size ≤ w5.heap.size := by
    have := hBb.lt
    omega
  refine leaves_marks (by simp) (B := base) [w'.heap.size, w5.heap.size] _ ⟨by simp; omega, fun m hm => by simp at hm; omega, fun m hm => by
    simp at hm
    rcases hm with rfl | rfl
    · exact hE2
    · exact hE1⟩ fun w22 ho => ?_
  have hkM : Keep (fun j => j = w'.heap.size ∨ j = w5.heap.size) W9 w22 := (Keep.only ho).mono fun j hj => Or.inl (by simpa using hj)
  have hnm : ∀ {j : Nat} {o : Obj}, W9.heap[j]? = some o → (o ≠ .deferred (some [])) → ¬ (j = w'.heap.size ∨ j = w5.heap.size) := fun h hn e => by
    rcases e with e | e
    · rw [e, hE2] at h
      injection h with h
      exact hn h.symm
    · rw [e, hE1] at h
      injection h with h
      exact hn h.symm
  have hmn : ¬ (mb = w'.heap.size ∨ mb = w5.heap.size) := by
    obtain ⟨es, clock, h1⟩ := hv9.map.obj
    exact hnm h1 (fun e => by cases e)
  have hv22 := hv9.turnedT (S' := S.woken M con (S.n + 2 * (n - k - 0))) hkM (fun k ty cs hB => hnm (show W9.heap[k]? = _ from hB) (fun e => by cases e)) (hv9.map.keep hkM hmn) rfl rfl rfl rfl rfl rfl rfl
  have hgb : ∀ {k : Nat} {cs : Array Value}, Blk w21 k 3 cs → ¬ (k = g) := fun hB e => by
    rw [e] at hB
    have := (show w21.heap[g]? = _ from hB).symm.trans Hv21.out.disk
    injection this with this
    injection this with _ this _
    exact absurd this (by decide)
  have hkt : Keep (fun j => j = g ∨ (j = w'.heap.size ∨ j = w5.heap.size)) w21 w22 := (hs9.mono fun j hj => Or.inl (Or.inl hj)).trans' (hkM.mono fun j hj => Or.inl (Or.inr hj))
  refine ⟨_, results_tmp rfl _ _ _, _, rfl, HI21.out.trans (IntKeep.keep hkt (Nat.le_trans Hv21.out.ge (Nat.le_of_lt Hv21.out.disk.lt)) (fun j hj => by rcases hj with rfl | rfl | rfl <;> omega) (fun k cs hS hB => by
    rcases hS with e | e
    · exact hgb hB e
    · exact hnm (show W9.heap[k]? = _ from hs9.blk hB (hgb hB)) (fun e => by cases e) e)), Or.inr ⟨Hd.out, rfl, M, con, S.n + 2 * (n - k - 0), HMa.out, by have := Hnn.out; have := Hx1.out.many; omega, Hcon.out, Hone.out, Wf.woken Hwf.out HMa.out Hcon.out _, mb, _, _, t, c, rv9, hv22⟩⟩
end Go.Proofs.Ytcfhhekklakacaa
