import Derived.Test.YtikdloadbjmeiaaGreatS1
import Derived.Laws.BytesString
import Derived.Lib.ConvBytes
/- An evaluator over an abstract heap: strings: conversions, ranges. -/
namespace Go.AE
open Go
noncomputable section
variable {U : Un}

def bytesOf : List Value → Option (List UInt8)
  | [] => some []
  | .int .u8 n :: vs => match bytesOf vs with
    | some l => some (UInt8.ofNat n.toNat :: l)
    | none => none
  | _ :: _ => none

theorem bytesOf_rel {m : Mp} : ∀ {vs vs' : List Value} {bs : List UInt8}, VsRel m vs vs' → bytesOf vs = some bs → ∃ ns : List Int, vs' = ns.map (Value.int .u8) ∧ ns.map (fun n => UInt8.ofNat n.toNat) = bs
  | [], _, bs, h, e => by cases h; simp [bytesOf] at e; subst e; exact ⟨[], rfl, rfl⟩
  | v :: vs, _, bs, h, e => by
    cases h with
    | cons a as =>
      cases a <;> (try simp only [bytesOf] at e) <;> try (cases e; done)
      rename_i k n
      cases k <;> (try simp only [bytesOf] at e) <;> try (cases e; done)
      cases hb : bytesOf vs with
      | none => simp [hb] at e
      | some l =>
        simp only [hb, Option.some.injEq] at e
        obtain ⟨ns, e1, e2⟩ := bytesOf_rel as hb
        exact ⟨n :: ns, by simp [e1], by simp [e2, ← e]⟩

theorem foldl_push_all : ∀ (ns : List Int) (s : ByteArray), ns.foldl (fun r n => r.push (UInt8.ofNat n.toNat)) s = ⟨s.data ++ (ns.map fun n => UInt8.ofNat n.toNat).toArray⟩
  | [], s => by simp
  | n :: ns, s => by
    rw [List.foldl_cons, foldl_push_all ns]
    simp [ByteArray.push]

section
variable {P : Program} {m : Mp} {h : AH} {w : World}

def aStr (P : Program) (s d : TypeId) (x : Value) (h : AH) : Option Value := match P.underlying s with
  | some (.slice e) => match P.underlying d with
    | some .string => match P.underlying e with
      | some (.int .u8) => match x with
        | .slice none _ _ => some (.string ByteArray.empty)
        | .slice (some a) l _ => match l with
          | 0 => some (.string ByteArray.empty)
          | l + 1 => match aCells h a (l + 1) with
            | some cs => match bytesOf cs.toList with
              | some bs => some (.string ⟨bs.toArray⟩)
              | none => none
            | none => none
        | _ => none
      | _ => none
    | _ => none
  | _ => none

theorem aStr_run {s d : TypeId} {x x' v : Value} (hr : HRel U m h w) (hv : VRel m x x') (hx : aStr P s d x h = some v) : ∃ v', (convert s d x').run P w = .ok v' w ∧ VRel m v v' := by
  unfold aStr at hx
  cases hs : P.underlying s with
  | none => simp [hs] at hx
  | some ds =>
  cases ds <;> simp only [hs] at hx <;> try (cases hx; done)
  rename_i e
  cases hd : P.underlying d with
  | none => simp [hd] at hx
  | some dd =>
  cases dd <;> simp only [hd] at hx <;> try (cases hx; done)
  cases he : P.underlying e with
  | none => simp [he] at hx
  | some de =>
  cases de <;> simp only [he] at hx <;> try (cases hx; done)
  rename_i k
  cases k <;> simp only at hx <;> try (cases hx; done)
  have conv : ∀ (a : Option Addr) (l c : Nat), (convert s d (.slice a l c)).run P w = (Conv.bytesToString (.slice a l c)).run P w := fun a l c => run_convert_bytes_string w s d e a l c hs he hd
  have empty : ∀ (a : Addr) (c : Nat), (Conv.bytesToString (.slice (some a) 0 c)).run P w = .ok (.string ByteArray.empty) w := by
    intro a c
    have := run_bytesToString (P := P) w a 0 c [] (by simp [loadCells, loadCellsFrom])
    simpa using this
  cases hv with
  | sliceNil =>
    simp only [Option.some.injEq] at hx; subst hx
    exact ⟨_, by rw [conv]; rfl, .string _⟩
  | sliceEmpty hbd hc =>
    simp only [Option.some.injEq] at hx; subst hx
    exact ⟨_, by rw [conv, empty], .string _⟩
  | slice ha hc =>
    rename_i a a' l k k'
    cases l with
    | zero =>
      simp only [Option.some.injEq] at hx; subst hx
      exact ⟨_, by rw [conv, empty], .string _⟩
    | succ l =>
      simp only at hx
      cases hcl : aCells h a (l + 1) with
      | none => simp [hcl] at hx
      | some cs =>
        simp only [hcl] at hx
        cases hb : bytesOf cs.toList with
        | none => simp [hb] at hx
        | some bs =>
          simp only [hb, Option.some.injEq] at hx
          subst hx
          obtain ⟨xs', r1, r2, r3, _⟩ := aCells_run (P := P) hr ha hcl
          obtain ⟨ns, e1, e2⟩ := bytesOf_rel r2 hb
          refine ⟨.string ⟨bs.toArray⟩, ?_, .string _⟩
          rw [conv, run_bytesToString w a' (l + 1) k' ns (by rw [r1 w rfl]; rw [← e1])]
          rw [foldl_push_all, e2]
          simp
  | _ => simp at hx

def aBytes (P : Program) (s d : TypeId) (x : Value) (h : AH) : Option (Value × AH) := match P.underlying s with
  | some _ => match P.underlying d with
    | some (.slice e) => match P.underlying e with
      | some (.int .u8) => match x with
        | .string b => match Nat.ble b.size 9223372036854775807 with
          | true => match aNew h (.cells (b.data.map fun c => .int .u8 c.toNat) e) with
            | some (n, h') => some (.slice (some ⟨n, 0, none⟩) b.size (unk 1 b.size), h')
            | none => none
          | false => none
        | _ => none
      | _ => none
    | _ => none
  | none => none

theorem aBytes_run {s d : TypeId} {x x' v : Value} {h' : AH} (hr : HRel U m h w) (hv : VRel m x x') (hx : aBytes P s d x h = some (v, h')) :
    ∃ m' v' w', (convert s d x').run P w = .ok v' w' ∧ Ext m w h.floor m' w' ∧ HRel U m' h' w' ∧ VRel m' v v' ∧ h'.floor = h.floor := by
  unfold aBytes at hx
  cases hs : P.underlying s with
  | none => simp [hs] at hx
  | some ds =>
  simp only [hs] at hx
  cases hd : P.underlying d with
  | none => simp [hd] at hx
  | some dd =>
  cases dd <;> simp only [hd] at hx <;> try (cases hx; done)
  rename_i e
  cases he : P.underlying e with
  | none => simp [he] at hx
  | some de =>
  cases de <;> simp only [he] at hx <;> try (cases hx; done)
  rename_i k
  cases k <;> simp only at hx <;> try (cases hx; done)
  cases hv <;> simp only at hx <;> try (cases hx; done)
  rename_i b
  cases hble : Nat.ble b.size 9223372036854775807 with
  | false => simp [hble] at hx
  | true =>
  simp only [hble] at hx
  have hsz := Nat.le_of_ble_eq_true hble
  unfold aNew at hx
  cases h1 : h.get h.fresh with
  | some _ => simp [h1] at hx
  | none =>
  simp only [h1, Option.some.injEq, Prod.mk.injEq] at hx
  obtain ⟨rfl, rfl⟩ := hx
  have hcap : b.size ≤ grownCap w b.size 0 e := by unfold grownCap Question.cut; simp
  have hcs : (Lib.bytesCells w e b).size = grownCap w b.size 0 e := by
    unfold Lib.bytesCells
    simp
    omega
  -- the new row
  have hget : ∀ x, ({ h.put h.fresh (.cells (b.data.map fun c => Value.int .u8 c.toNat) e) with fresh := h.fresh + 1 } : AH).get x = if x = h.fresh then some (.cells (b.data.map fun c => Value.int .u8 c.toNat) e) else h.get x := fun x => AH.get_put ..
  let w1 : World := { Lib.bytesWorld w e b with heap := w.heap.push (.cells (Lib.bytesCells w e b) e ((Lib.bytesCells w e b).size, (Lib.bytesCells w e b).size + 1)) }
  have hheap : (Lib.bytesWorld w e b).heap = w1.heap := by
    apply Array.ext_getElem?
    intro j
    by_cases hj : j < w.heap.size
    · rw [Lib.bytesWorld_at_old w e b j hj]; simp [w1, Array.getElem?_push_lt hj, Array.getElem?_eq_getElem hj]
    · by_cases hj2 : j = w.heap.size
      · subst hj2; rw [Lib.bytesWorld_at_new]; simp [w1]
      · rw [Array.getElem?_eq_none (by rw [Lib.bytesWorld_size]; omega), Array.getElem?_eq_none (by simp [w1]; omega)]
  have hrel : HRel U (m.new h.fresh w.heap.size (grownCap w b.size 0 e)) { h.put h.fresh (.cells (b.data.map fun c => Value.int .u8 c.toNat) e) with fresh := h.fresh + 1 } (Lib.bytesWorld w e b) := by
    refine HRel.new (o' := .cells (Lib.bytesCells w e b) e ((Lib.bytesCells w e b).size, (Lib.bytesCells w e b).size + 1)) hr h1 hget hheap ?_
    refine ⟨rfl, ?_, ?_, ?_, ?_⟩
    · simp; exact hcap
    · simp [hcs]
    · intro i v hi
      simp only [Array.getElem?_map] at hi
      cases hg : b.data[i]? with
      | none => simp [hg] at hi
      | some c =>
        simp only [hg, Option.map_some, Option.some.injEq] at hi
        subst hi
        have hlt : i < b.data.size := (Array.getElem?_eq_some_iff.1 hg).1
        refine ⟨.int .u8 c.toNat, ?_, .int _ _⟩
        unfold Lib.bytesCells
        simp only [Nat.zero_add]
        rw [Array.getElem?_append_left (by simpa using hlt)]
        simp [hg]
    · intro i hi
      simp only [Nat.zero_add]
      rw [hcs]; simp only at hi; omega
  have hmn : (m.new h.fresh w.heap.size (grownCap w b.size 0 e)) h.fresh = some (some (w.heap.size, ⟨0, grownCap w b.size 0 e⟩)) := by simp [Mp.new]
  refine ⟨_, _, _, Lib.run_convert_string_bytes w s d e b hs hd he, Ext.new hr h1 hheap, hrel, ?_, rfl⟩
  have := AddrRel.live (o := 0) hmn
  refine .slice (by simpa using this) ⟨fun hlt => absurd hlt (by have := unk_big 1 b.size; omega), fun _ => ?_⟩
  have hbb : b.size < big := by unfold big; omega
  rw [unk_mod hbb, unk_div hbb]
  refine ⟨hcap, fun c s hcs2 => ?_⟩
  simp only at hcs2
  rw [hmn] at hcs2
  cases hcs2
  simp

def aRangeS (P : Program) (t : TypeId) (x : Value) (h : AH) : Option (Value × AH) := match P.underlying t with
  | some .string => match x with
    | .string s => match aNew h (.stringIter s 0) with
      | some (b, h') => some (.pointer (some ⟨b, 0, none⟩), h')
      | none => none
    | _ => none
  | _ => none

theorem aRangeS_run {t : TypeId} {x x' v : Value} {h' : AH} (hr : HRel U m h w) (hv : VRel m x x') (hx : aRangeS P t x h = some (v, h')) :
    ∃ m' v' w', (Instr.range t x').run P w = .ok v' w' ∧ Ext m w h.floor m' w' ∧ HRel U m' h' w' ∧ VRel m' v v' ∧ h'.floor = h.floor := by
  unfold aRangeS at hx
  cases hu : P.underlying t with
  | none => simp [hu] at hx
  | some d =>
  cases d <;> simp only [hu] at hx <;> try (cases hx; done)
  cases hv <;> simp only at hx <;> try (cases hx; done)
  rename_i s
  cases hn : aNew h (.stringIter s 0) with
  | none => simp [hn] at hx
  | some q =>
  obtain ⟨b, h2⟩ := q
  simp only [hn, Option.some.injEq, Prod.mk.injEq] at hx
  obtain ⟨rfl, rfl⟩ := hx
  obtain ⟨m', r1, r2, r3, r4, r5⟩ := aNew_run (P := P) (o' := .stringIter s 0) (q := 0) hr hn (fun _ _ => ⟨rfl, rfl, rfl⟩)
  refine ⟨m', .pointer (some ⟨w.heap.size, 0, none⟩), _, ?_, r2, r3, .ptr ?_, r5⟩
  · unfold Instr.range
    rw [run_bind', ru hu]
    simp only
    rw [run_bind', rp]
    simp only
    rw [run_bind', r1]
    rfl
  · have := AddrRel.live (o := 0) r4
    simpa using this

def aNextS (it : Value) (h : AH) : Option (Value × AH) := match it with
  | .pointer (some a) => match a.spot with
    | some _ => none
    | none => match Nat.beq a.off 0 with
      | false => none
      | true => match Nat.ble h.floor a.block with
        | false => none
        | true => match h.get a.block with
          | some (.stringIter s p) => match Nat.ble (p + 1) s.size with
            | true => some (.tuple #[.bool true, .int .i64 p, .int .i32 (Utf8.decode s p).1], h.put a.block (.stringIter s (p + (Utf8.decode s p).2)))
            | false => some (.tuple #[.bool false], h)
          | _ => none
  | _ => none

theorem aNextS_run {it it' v : Value} {h' : AH} (ty : TypeId) (hr : HRel U m h w) (hv : VRel m it it') (hx : aNextS it h = some (v, h')) :
    ∃ m' v' w', (Instr.next it' true ty).run P w = .ok v' w' ∧ Ext m w h.floor m' w' ∧ HRel U m' h' w' ∧ VRel m' v v' ∧ h'.floor = h.floor := by
  unfold aNextS at hx
  cases hv <;> simp only at hx <;> try (cases hx; done)
  rename_i a a' ha
  cases hsp : a.spot with
  | some _ => simp [hsp] at hx
  | none =>
  simp only [hsp] at hx
  cases ho : Nat.beq a.off 0 with
  | false => simp [ho] at hx
  | true =>
  simp only [ho] at hx
  have h0 := Nat.eq_of_beq_eq_true ho
  cases hf : Nat.ble h.floor a.block with
  | false => simp [hf] at hx
  | true =>
  simp only [hf] at hx
  have hfl := Nat.le_of_ble_eq_true hf
  cases hg : h.get a.block with
  | none => simp [hg] at hx
  | some o =>
  cases o <;> simp only [hg] at hx <;> try (cases hx; done)
  rename_i s0 p0
  rcases hr.obj a.block _ hg (hr.unA ha) with ⟨hd, _⟩ | ⟨r, sp, o', g0, g1, g2⟩
  · cases hd
  cases o' <;> try (exact g2.elim)
  rename_i s p
  obtain ⟨rfl, e1, e2⟩ := g2
  subst e1 e2
  have ha' : a' = ⟨r, 0, none⟩ := by
    cases ha with
    | live hm => simp only at g0 h0; rw [hm] at g0; cases g0; simp [o0, h0]
    | dead hm => simp only at g0; rw [hm] at g0; cases g0
  subst ha'
  cases hb : Nat.ble (p + 1) s.size with
  | false =>
    simp only [hb, Option.some.injEq, Prod.mk.injEq] at hx
    obtain ⟨rfl, rfl⟩ := hx
    have hlt : ¬ p < s.size := by have := not_ble hb; omega
    refine ⟨m, .tuple #[.bool false], w, ?_, .refl .., hr, .tuple (.one (.bool _)), rfl⟩
    unfold Instr.next
    simp only
    rw [run_bind', rg g1 (by simp)]
    simp only
    rw [if_neg hlt]
    rfl
  | true =>
    simp only [hb, Option.some.injEq, Prod.mk.injEq] at hx
    obtain ⟨rfl, rfl⟩ := hx
    have hlt : p < s.size := Nat.le_of_ble_eq_true hb
    let w1 : World := { w with heap := w.heap.setIfInBounds r (.stringIter s (p + (Utf8.decode s p).2)) }
    have hsz : r < w.heap.size := (Array.getElem?_eq_some_iff.1 g1).1
    have hw1 : w1.heap[r]? = some (.stringIter s (p + (Utf8.decode s p).2)) := by simp [w1, hsz]
    have hw2 : ∀ c', c' ≠ r → w1.heap[c']? = w.heap[c']? := fun c' hc => by simp [w1, Ne.symm hc]
    refine ⟨m, _, w1, ?_, Ext.change g0 hfl (by simp [w1]) hw2, HRel.change hr g0 (fun x => AH.get_put ..) hw1 ⟨rfl, rfl, rfl⟩ hw2, .tuple (.cons (.bool _) (.cons (.int _ _) (.one (.int _ _)))), rfl⟩
    unfold Instr.next
    simp only
    rw [run_bind', rg g1 (by simp)]
    simp only
    rw [if_pos hlt]
    rw [run_bind']
    have : (Go.setObj r (.stringIter s (p + (Utf8.decode s p).2))).run P w = .ok () w1 := by
      simp only [Go.setObj, Sem.run, g1]
      rfl
    rw [this]
    rfl
end
end
end Go.AE
