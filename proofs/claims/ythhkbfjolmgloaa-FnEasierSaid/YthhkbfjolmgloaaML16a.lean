/- The best found so far, in memory. No condition.
   What impl's search over all orders keeps and writes of memory: the placer, the best found. Plain memory alone.
   look leaves all as it is where the floor is over the best found. Condition: the line is right.
   look finds the best of all plans that come from a part of one. Condition: the line is right, the part was placed so. -/
import Derived.Test.YthhkbfjolmgloaaMHCopy
import Derived.Test.YthhkbfjolmgloaaML7a
import Derived.Test.YthhkbfjolmgloaaMHFloor
namespace Go.Proofs.Ythhkbfjolmgloaa
open Go.RowKit
set_option linter.unusedVariables false
set_option linter.unusedSimpArgs false
theorem ownsRow_chg {S : Nat → Prop} {w w' : World} {B : Nat} {e : TypeId} {size : Nat} {v : Value} {n : Nat} {xs : List Value} (h : w.ownsRow B e size v n xs) (k : Chg S w w') (hS : ∀ g, S g → g < B) : w'.ownsRow B e size v n xs := by
  refine ⟨h.1, ?_⟩
  rcases h.2 with h2 | ⟨g, cap, cur, rfl, h2, h3, h4⟩
  · exact Or.inl h2
  · exact Or.inr ⟨g, cap, cur, rfl, h2, k.box h3 (fun hs => by have := hS g hs; omega), h4⟩
theorem PRows.chg {S : Nat → Prop} {w w' : World} {lo : Nat} {p : List (List Int)} {AR : Option Addr} {gr : Nat} {vs : Nat → Value} (h : PRows w lo p AR gr vs) (k : Chg S w w') (hS : ∀ g, S g → g < lo) : PRows w' lo p AR gr vs :=
  ⟨fun hn => by obtain ⟨h1, cs, h2, h3⟩ := h.base hn; exact ⟨h1, cs, k.box h2 (fun hs => by have := hS gr hs; have := h.lor; omega), h3⟩, fun i hi => ownsRow_chg (h.own i hi) k hS, h.apart, h.far, h.lor⟩
/-- The box of the search holds the best found so far. -/
def AccIs (w : World) (gs : Nat) (l : Line) (A0 : Option Addr) (c0 : Nat) (A2 : Option Addr) (c2 : Nat) (acc : Acc) : Prop :=
  ∃ (has : Bool) (c : Int) (AP : Option Addr) (n cP : Nat), w.heap[gs]? = some (.cells #[.slice A0 l.tracks.length c0, .int .i64 l.gap, .slice A2 l.trains.length c2, .bool has, .int .i64 c, .slice AP n cP] 106 (0, 0)) ∧
    match acc with
    | none => has = false
    | some (c', b) => has = true ∧ c = c' ∧ b.length = n ∧ Fits l b ∧ ∃ gr vs, PRows w (gs + 1) b AP gr vs
theorem AccIs.ext {w w' : World} {gs : Nat} {l : Line} {A0 : Option Addr} {c0 : Nat} {A2 : Option Addr} {c2 : Nat} {acc : Acc} (h : AccIs w gs l A0 c0 A2 c2 acc) (e : Ext w w') : AccIs w' gs l A0 c0 A2 c2 acc := by
  obtain ⟨has, c, AP, n, cP, h1, h2⟩ := h
  refine ⟨has, c, AP, n, cP, e.box h1, ?_⟩
  cases acc with
  | none => exact h2
  | some x =>
    obtain ⟨h3, h4, h5, h6, gr, vs, h7⟩ := h2
    exact ⟨h3, h4, h5, h6, gr, vs, h7.ext e⟩
end Go.Proofs.Ythhkbfjolmgloaa
namespace Go.Proofs.Ythhkbfjolmgloaa
open Go.RowKit
set_option linter.unusedVariables false
set_option linter.unusedSimpArgs false
theorem ownsRow_keep {S : Nat → Prop} {w w' : World} {B : Nat} {e : TypeId} {size : Nat} {v : Value} {n : Nat} {xs : List Value} (h : w.ownsRow B e size v n xs) (k : Chg S w w') (hS : ∀ g, v.ownBlock = some g → ¬ S g) : w'.ownsRow B e size v n xs := by
  refine ⟨h.1, ?_⟩
  rcases h.2 with h2 | ⟨g, cap, cur, rfl, h2, h3, h4⟩
  · exact Or.inl h2
  · exact Or.inr ⟨g, cap, cur, rfl, h2, k.box h3 (hS g rfl), h4⟩
/-- One element less at the end. -/
theorem ownsRow_less {w : World} {B : Nat} {e : TypeId} {A : Option Addr} {n c : Nat} {xs : List Value} {x : Value} (h : w.ownsRow B e 1 (.slice A (n + 1) c) (n + 1) (xs ++ [x])) : w.ownsRow B e 1 (.slice A n c) n xs := by
  have hl := h.1
  simp only [List.length_append, List.length_singleton, Nat.mul_one] at hl
  refine ⟨by omega, ?_⟩
  rcases h.2 with ⟨h1, h2⟩ | ⟨g, cap, cur, h1, h2, h3, h4, h5, h6, h7⟩
  · omega
  · simp only [Value.slice.injEq] at h1
    obtain ⟨rfl, _, rfl⟩ := h1
    refine Or.inr ⟨g, c, cur, rfl, h2, h3, by omega, h5, h6, ?_⟩
    rw [Nat.mul_one] at h7 ⊢
    have e : (cur.toList.take (n + 1)).take n = (xs ++ [x]).take n := by rw [h7]
    rw [List.take_take, Nat.min_eq_left (by omega), List.take_append_of_le_length (by omega), List.take_of_length_le (l := xs) (by omega)] at e
    exact e
theorem PRows.keep {S : Nat → Prop} {w w' : World} {lo : Nat} {p : List (List Int)} {AR : Option Addr} {gr : Nat} {vs : Nat → Value} (h : PRows w lo p AR gr vs) (k : Chg S w w') (h1 : 0 < p.length → ¬ S gr) (h2 : ∀ i g, i < p.length → (vs i).ownBlock = some g → ¬ S g) : PRows w' lo p AR gr vs :=
  ⟨fun hn => by obtain ⟨a, cs, b, c⟩ := h.base hn; exact ⟨a, cs, k.box b (h1 hn), c⟩, fun i hi => ownsRow_keep (h.own i hi) k (fun g hg => h2 i g hi hg), h.apart, h.far, h.lor⟩
/-- The blocks that a search writes: the best's box, the placer's. -/
def SrS (gb gp gr n : Nat) (vs : Nat → Value) (g : Nat) : Prop := g = gb ∨ g = gp ∨ g = gr ∨ ∃ i, i < n ∧ (vs i).ownBlock = some g
/-- The best found so far in its box, its rows apart from what is written. -/
def BestIn (w : World) (lo gb : Nat) (l : Line) (S : Nat → Prop) (acc : Acc) : Prop :=
  ∃ (ok : Bool) (c : Int) (AP : Option Addr) (n cP : Nat), w.heap[gb]? = some (.cells #[.bool ok, .int .i64 c, .slice AP n cP] 44 (0, 0)) ∧
    match acc with
    | none => ok = false ∧ c = 0 ∧ AP = none ∧ n = 0 ∧ cP = 0
    | some (c', b) => ok = true ∧ c = c' ∧ b.length = n ∧ Fits l b ∧ ∃ grb vsb, PRows w lo b AP grb vsb ∧ (0 < b.length → ¬ S grb) ∧ ∀ i g, i < b.length → (vsb i).ownBlock = some g → ¬ S g
theorem BestIn.keep {S S' S2 : Nat → Prop} {w w' : World} {lo gb : Nat} {l : Line} {acc : Acc} (h : BestIn w lo gb l S acc) (C : Chg S' w w') (hb : ¬ S' gb) (h1 : ∀ g, g < w.heap.size → S' g → S g) (h2 : ∀ g, g < w.heap.size → S2 g → S g) : BestIn w' lo gb l S2 acc := by
  obtain ⟨ok, c, AP, n, cP, hx, hm⟩ := h
  refine ⟨ok, c, AP, n, cP, C.box hx hb, ?_⟩
  cases acc with
  | none => exact hm
  | some cb =>
    obtain ⟨q1, q2, q3, q4, grb, vsb, q5, q6, q7⟩ := hm
    have hlr : 0 < cb.2.length → grb < w.heap.size := fun hn => by obtain ⟨_, cs, hc, _⟩ := q5.base hn; exact box_lt hc
    have hlo : ∀ i g, i < cb.2.length → (vsb i).ownBlock = some g → g < w.heap.size := fun i g hi hg => ((q5.own i hi).lt g hg).2
    exact ⟨q1, q2, q3, q4, grb, vsb, q5.keep C (fun hn hs => q6 hn (h1 _ (hlr hn) hs)) (fun i g hi hg hs => q7 i g hi hg (h1 _ (hlo i g hi hg) hs)), fun hn hs => q6 hn (h2 _ (hlr hn) hs), fun i g hi hg hs => q7 i g hi hg (h2 _ (hlo i g hi hg) hs)⟩
/-- The boxes that the search reads: the line, where the placer is, where the search itself is. -/
structure SrBx (w : World) (l : Line) (A0 : Option Addr) (c0 : Nat) (A2 : Option Addr) (c2 : Nat) (gl gq gb gf gp gr : Nat) : Prop where
  bl : w.heap[gl]? = some (.cells #[.slice A0 l.tracks.length c0, .int .i64 l.gap, .slice A2 l.trains.length c2] 33 (0, 0))
  bq : w.heap[gq]? = some (.cells #[.pointer (some ⟨gp, 0, none⟩)] 110 (0, 0))
  bf : w.heap[gf]? = some (.cells #[.func (.func 87) #[] #[.pointer (some ⟨gl, 0, none⟩), .pointer (some ⟨gq, 0, none⟩), .pointer (some ⟨gb, 0, none⟩), .pointer (some ⟨gf, 0, none⟩)]] 1 (0, 0))
  nl : gl ≠ gb ∧ gl ≠ gp ∧ gl ≠ gr
  nq : gq ≠ gb ∧ gq ≠ gp ∧ gq ≠ gr
  nf : gf ≠ gb ∧ gf ≠ gp ∧ gf ≠ gr
  nb : gb ≠ gp ∧ gb ≠ gr
/-- The rows' blocks are none of the boxes. -/
def SrF (gl gq gb gf n : Nat) (vs : Nat → Value) : Prop := ∀ i g, i < n → (vs i).ownBlock = some g → g ≠ gl ∧ g ≠ gq ∧ g ≠ gf ∧ g ≠ gb
theorem SrBx.keep {w w' : World} {l : Line} {A0 : Option Addr} {c0 : Nat} {A2 : Option Addr} {c2 : Nat} {gl gq gb gf gp gr n : Nat} {vs : Nat → Value} (h : SrBx w l A0 c0 A2 c2 gl gq gb gf gp gr) (F : SrF gl gq gb gf n vs) (C : Chg (SrS gb gp gr n vs) w w') : SrBx w' l A0 c0 A2 c2 gl gq gb gf gp gr := by
  refine ⟨C.box h.bl ?_, C.box h.bq ?_, C.box h.bf ?_, h.nl, h.nq, h.nf, h.nb⟩
  · rintro (e | e | e | ⟨i, hi, e⟩)
    · exact h.nl.1 e
    · exact h.nl.2.1 e
    · exact h.nl.2.2 e
    · exact (F i _ hi e).1 rfl
  · rintro (e | e | e | ⟨i, hi, e⟩)
    · exact h.nq.1 e
    · exact h.nq.2.1 e
    · exact h.nq.2.2 e
    · exact (F i _ hi e).2.1 rfl
  · rintro (e | e | e | ⟨i, hi, e⟩)
    · exact h.nf.1 e
    · exact h.nf.2.1 e
    · exact h.nf.2.2 e
    · exact (F i _ hi e).2.2.1 rfl
theorem SrBx.ext {w w' : World} {l : Line} {A0 : Option Addr} {c0 : Nat} {A2 : Option Addr} {c2 : Nat} {gl gq gb gf gp gr : Nat} (h : SrBx w l A0 c0 A2 c2 gl gq gb gf gp gr) (e : Ext w w') : SrBx w' l A0 c0 A2 c2 gl gq gb gf gp gr :=
  ⟨e.box h.bl, e.box h.bq, e.box h.bf, h.nl, h.nq, h.nf, h.nb⟩
/-- New rows lie where the old ones did, or in new memory. -/
def NewV (H n : Nat) (vs vs' : Nat → Value) : Prop := ∀ i g, i < n → (vs' i).ownBlock = some g → (∃ j, j < n ∧ (vs j).ownBlock = some g) ∨ H ≤ g
theorem NewV.refl (H n : Nat) (vs : Nat → Value) : NewV H n vs vs := fun i g hi h => Or.inl ⟨i, hi, h⟩
theorem NewV.trans {H H' n : Nat} {a b c : Nat → Value} (h : NewV H n a b) (k : NewV H' n b c) (hH : H ≤ H') : NewV H n a c := fun i g hi hg => by
  rcases k i g hi hg with ⟨j, hj, h2⟩ | h2
  · exact h j g hj h2
  · exact Or.inr (by omega)
theorem NewV.upd {H n i : Nat} {vs : Nat → Value} {v : Value} (hi : i < n) (h : ∀ g, v.ownBlock = some g → (vs i).ownBlock = some g ∨ H ≤ g) : NewV H n vs (upd vs i v) := fun j g hj hg => by
  unfold Proofs.Ythhkbfjolmgloaa.upd at hg
  by_cases e : j = i
  · rw [if_pos e] at hg
    rcases h g hg with h | h
    · exact Or.inl ⟨i, hi, h⟩
    · exact Or.inr h
  · rw [if_neg e] at hg
    exact Or.inl ⟨j, hj, hg⟩
theorem NewV.far {H n gl gq gb gf : Nat} {vs vs' : Nat → Value} (h : NewV H n vs vs') (F : SrF gl gq gb gf n vs) (hl : gl < H ∧ gq < H ∧ gf < H ∧ gb < H) : SrF gl gq gb gf n vs' := fun i g hi hg => by
  rcases h i g hi hg with ⟨j, hj, h2⟩ | h2
  · exact F j g hj h2
  · omega
/-- What is written through new rows, seen from before. -/
theorem NewV.srs {H gb gp gr n : Nat} {vs vs' : Nat → Value} (h : NewV H n vs vs') : ∀ g, g < H → SrS gb gp gr n vs' g → SrS gb gp gr n vs g := by
  rintro g hg (e | e | e | ⟨i, hi, e⟩)
  · exact Or.inl e
  · exact Or.inr (Or.inl e)
  · exact Or.inr (Or.inr (Or.inl e))
  · rcases h i g hi e with ⟨j, hj, h2⟩ | h2
    · exact Or.inr (Or.inr (Or.inr ⟨j, hj, h2⟩))
    · omega
theorem own3_srs {gb gp gr n i : Nat} {vs : Nat → Value} (hi : i < n) : ∀ g, own3 gp gr (vs i) g → SrS gb gp gr n vs g := by
  rintro g (e | e | e)
  · exact Or.inr (Or.inl e)
  · exact Or.inr (Or.inr (Or.inl e))
  · exact Or.inr (Or.inr (Or.inr ⟨i, hi, e⟩))
/-- A placer, kept while the best's box alone is written. -/
theorem Plc.keep {S : Nat → Prop} {w w' : World} {lo : Nat} {T : TypeId} {l : Line} {p : List (List Int)} {last : Int} {gp : Nat} {A0 : Option Addr} {c0 : Nat} {A2 : Option Addr} {c2 : Nat} {AR : Option Addr} {cR gr : Nat} {vs : Nat → Value} (P : Plc w lo T l p last gp A0 c0 A2 c2 AR cR gr vs) (C : Chg S w w') (hS : ∀ g, S g → lo ≤ g)
    (hp : ¬ S gp) (hr : ¬ S gr) (hv : ∀ i g, i < l.trains.length → (vs i).ownBlock = some g → ¬ S g) : Plc w' lo T l p last gp A0 c0 A2 c2 AR cR gr vs :=
  ⟨fun W hW => P.line W (Below.trans (C.below hS P.lo_le) hW), C.box P.box hp, fun hn => by obtain ⟨h1, cs, h2, h3⟩ := P.base hn; exact ⟨h1, cs, C.box h2 hr, h3⟩, fun i hi => ownsRow_keep (P.own i hi) C (fun g hg => hv i g hi hg), P.apart, P.far, P.rows, P.lop, P.lor, P.ne⟩
theorem Plc.ext {w w' : World} {lo : Nat} {T : TypeId} {l : Line} {p : List (List Int)} {last : Int} {gp : Nat} {A0 : Option Addr} {c0 : Nat} {A2 : Option Addr} {c2 : Nat} {AR : Option Addr} {cR gr : Nat} {vs : Nat → Value} (P : Plc w lo T l p last gp A0 c0 A2 c2 AR cR gr vs) (e : Ext w w') : Plc w' lo T l p last gp A0 c0 A2 c2 AR cR gr vs :=
  P.keep (S := fun _ => False) (Chg.of_ext e) (fun _ h => h.elim) id id (fun _ _ _ _ => id)
theorem Chg.comp {S T : Nat → Prop} {a b c : World} (h : Chg S a b) (k : Chg T b c) (hT : ∀ g, g < a.heap.size → T g → S g) : Chg S a c :=
  ⟨k.os.trans h.os, k.tape.trans h.tape, k.output.trans h.output, Nat.le_trans h.size k.size, fun g hg hs => (k.block g (Nat.lt_of_lt_of_le hg h.size) (fun ht => hs (hT g hg ht))).trans (h.block g hg hs)⟩
/-- When the last was placed, set back. -/
theorem plc_last {w : World} {lo : Nat} {T : TypeId} {l : Line} {p : List (List Int)} {last x : Int} {gp : Nat} {A0 : Option Addr} {c0 : Nat} {A2 : Option Addr} {c2 : Nat} {AR : Option Addr} {cR gr : Nat} {vs : Nat → Value}
    (P : Plc w lo T l p x gp A0 c0 A2 c2 AR cR gr vs) : Plc (w.setCell ⟨gp, 4, none⟩ (.int .i64 last)) lo T l p last gp A0 c0 A2 c2 AR cR gr vs := by
  have C : Chg (fun g => g = gp) w (w.setCell ⟨gp, 4, none⟩ (.int .i64 last)) := (Chg.of_ext (S := fun g => g = gp) (Ext.refl w)).setCell (Or.inl rfl) _ _
  have hlo : ∀ g, g = gp → lo ≤ g := by rintro g rfl; exact P.lop
  have bp := box_set P.box 4 (.int .i64 last)
  refine ⟨fun W hW => P.line W (Below.trans (C.below hlo P.lo_le) hW), by simpa using bp, fun hn => ?_, fun j hj => ownsRow_set_far (P.own j hj) (fun h => (P.far j gp hj h).1 rfl) _ _, P.apart, P.far, P.rows, P.lop, P.lor, P.ne⟩
  obtain ⟨h1, cs, h2, h3⟩ := P.base hn
  exact ⟨h1, cs, box_set_far h2 4 _ (Ne.symm P.ne), h3⟩
/-- A step taken back: the row of a train loses its last. -/
theorem plc_back {w : World} {lo : Nat} {T : TypeId} {l : Line} {p : List (List Int)} {last x : Int} {gp : Nat} {A0 : Option Addr} {c0 : Nat} {A2 : Option Addr} {c2 : Nat} {AR : Option Addr} {cR gr : Nat} {vs : Nat → Value} {i c : Nat} {A : Option Addr}
    (P : Plc w lo T l (put p i x) last gp A0 c0 A2 c2 AR cR gr vs) (hi : i < l.trains.length) (hv : vs i = .slice A (rl p i + 1) c) :
    Plc (w.setCell ⟨gr, i, none⟩ (.slice A (rl p i) c)) lo T l p last gp A0 c0 A2 c2 AR cR gr (upd vs i (.slice A (rl p i) c)) ∧ (Value.slice A (rl p i) c).ownBlock = (vs i).ownBlock := by
  have hob : (Value.slice A (rl p i) c).ownBlock = (vs i).ownBlock := by rw [hv]; cases A <;> rfl
  obtain ⟨hAR, cs, hcs, hcv⟩ := P.base (by omega)
  have hrp : p.length = l.trains.length := by rw [← P.rows, put_length]
  have hip : i < p.length := by omega
  have hlo : ∀ g, g = gr → lo ≤ g := by rintro g rfl; exact P.lor
  have C : Chg (fun g => g = gr) w (w.setCell ⟨gr, i, none⟩ (.slice A (rl p i) c)) := (Chg.of_ext (S := fun g => g = gr) (Ext.refl w)).setCell (Or.inl rfl) _ _
  have bp := box_set_far P.box i (.slice A (rl p i) c) P.ne
  have br := box_set hcs i (.slice A (rl p i) c)
  have hi' : i < cs.size := (Array.getElem?_eq_some_iff.1 (hcv i hi)).1
  have hown : ∀ j, (upd vs i (.slice A (rl p i) c) j).ownBlock = (vs j).ownBlock := fun j => by
    unfold upd
    by_cases e : j = i
    · subst e; rw [if_pos rfl, hob]
    · rw [if_neg e]
  refine ⟨⟨fun W hW => P.line W (Below.trans (C.below hlo P.lo_le) hW), bp, fun _ => ⟨hAR, _, br, fun j hj => ?_⟩, fun j hj => ?_, fun a b g ha hb hab h1 h2 => ?_, fun a g ha h1 => ?_, hrp, P.lop, P.lor, P.ne⟩, hob⟩
  · unfold upd
    by_cases e : j = i
    · subst e
      rw [if_pos rfl, Array.getElem?_setIfInBounds_self_of_lt hi']
    · rw [if_neg e, Array.getElem?_setIfInBounds_ne (Ne.symm e)]
      exact hcv j hj
  · have h6 := P.own j hj
    unfold upd
    by_cases e : j = i
    · subst e
      rw [if_pos rfl]
      rw [rl_put hip, if_pos rfl, row_put_i hip, nums_append, hv] at h6
      exact ownsRow_set_far (ownsRow_less h6) (fun h => by rw [hob] at h; exact (P.far j gr hj h).2 rfl) _ _
    · rw [if_neg e]
      rw [rl_put hip, if_neg e, row_put_ne hip e] at h6
      exact ownsRow_set_far h6 (fun h => (P.far j gr hj h).2 rfl) _ _
  · rw [hown] at h1 h2
    exact P.apart a b g ha hb hab h1 h2
  · rw [hown] at h1
    exact P.far a g ha h1
/-! ### A plan's rows, copied one after the other -/
theorem cpc_step {w wb wd : World} {o : Obj} {B g g' cap' jj : Nat} {p : List (List Int)} {v u : Value} {vs : Nat → Value} (C : CpI w B p jj v vs) (hB : B ≤ w.heap.size) (hu : u.ownBlock = some g) 
    (h2 : wb.ownsRow w.heap.size 3 1 u (rl p jj) (nums (p.getD jj []))) (hb : Ext w wb)
    (hd : (wb.alloc o).grownBy wd v.ownBlock) (hown : wd.ownsRow B 23 1 (.slice (some ⟨g', 0, none⟩) (jj + 1) cap') (jj + 1) ((List.range jj).map vs ++ [u]))
    (hg0 : v.ownBlock = some g' ∨ g' = (wb.alloc o).heap.size) :
    CpI wd B p (jj + 1) (.slice (some ⟨g', 0, none⟩) (jj + 1) cap') (upd vs jj u) := by
  have hg' : v.ownBlock = some g' ∨ wb.heap.size ≤ g' := hg0.imp id (fun h => by rw [h, alloc_size]; omega)
  have hsb := hb.size
  have hg : w.heap.size ≤ g := (h2.lt g hu).1
  have hvl : ∀ k, v.ownBlock = some k → k < w.heap.size := fun k h => (C.own.lt k h).2
  have hgl : g < wb.heap.size := (h2.lt g hu).2
  have hrl : ∀ i k, i < jj → (vs i).ownBlock = some k → k < w.heap.size := fun i k hi h => ((C.rows i hi).lt k h).2
  refine ⟨?_, fun i hi => ?_, fun i k hi h => ?_, fun i j k hi hj hne h1 h3 => ?_⟩
  · have e : (List.range (jj + 1)).map (upd vs jj u) = (List.range jj).map vs ++ [u] := by
      rw [List.range_succ, List.map_append]
      congr 1
      · refine List.map_congr_left fun i hi => ?_
        have := List.mem_range.1 hi
        unfold upd
        rw [if_neg (by omega)]
      · simp [upd]
    rw [e]; exact hown
  · unfold upd
    by_cases e : i = jj
    · subst e
      rw [if_pos rfl]
      exact ownsRow_mono (World.ownsRow.kept (h2.alloc o) hd (Or.inr (fun h => by rw [hu] at h; have := hvl g h.symm; omega))) hB
    · rw [if_neg e]
      have hi' : i < jj := by omega
      exact World.ownsRow.kept ((ownsRow_ext (C.rows i hi') hb).alloc o) hd (by
        cases hk : (vs i).ownBlock with
        | none => exact Or.inl rfl
        | some k => exact Or.inr (fun e2 => C.far i k hi' hk e2.symm))
  · rw [ownBlock_slice]
    simp only [ne_eq, Option.some.injEq]
    intro e
    subst e
    unfold upd at h
    by_cases e : i = jj
    · rw [if_pos e, hu] at h
      simp only [Option.some.injEq] at h
      rcases hg' with h4 | h4
      · have := hvl _ h4; omega
      · omega
    · rw [if_neg e] at h
      have hi' : i < jj := by omega
      rcases hg' with h4 | h4
      · exact C.far i _ hi' h h4
      · have := hrl i _ hi' h; omega
  · unfold upd at h1 h3
    by_cases ei : i = jj
    · rw [if_pos ei, hu] at h1
      simp only [Option.some.injEq] at h1
      rw [if_neg (by omega)] at h3
      have := hrl j k (by omega) h3
      omega
    · rw [if_neg ei] at h1
      have hk := hrl i k (by omega) h1
      by_cases ej : j = jj
      · rw [if_pos ej, hu] at h3
        simp only [Option.some.injEq] at h3
        omega
      · rw [if_neg ej] at h3
        exact C.apart i j k (by omega) (by omega) hne h1 h3
/-- The rows of a plan, copied, are a plan's rows of their own. -/
theorem CpI.prows {w : World} {B : Nat} {p : List (List Int)} {v : Value} {vs : Nat → Value} (C : CpI w B p p.length v vs) : ∃ AP cP grb, v = .slice AP p.length cP ∧ PRows w B p AP grb vs ∧ ((0 < p.length → B ≤ grb) ∧ (0 < p.length → grb < w.heap.size)) := by
  rcases C.own.2 with ⟨h1, h2⟩ | ⟨g, cap, cur, h1, h2, h3, h4, h5, h6, h7⟩
  · refine ⟨none, 0, B, by rw [h1, h2], ⟨fun hn => by omega, fun i hi => by omega, fun i j g hi => by omega, fun i g hi => by omega, Nat.le_refl _⟩, ⟨fun h => by omega, fun h => by omega⟩⟩
  · refine ⟨some ⟨g, 0, none⟩, cap, g, h1, ⟨fun hn => ⟨rfl, cur, h3, fun i hi => ?_⟩, fun i hi => C.rows i hi, fun i j k hi hj => C.apart i j k hi hj, fun i k hi h => fun e => C.far i k hi h (by rw [h1, e]; rfl), h2⟩, ⟨fun _ => h2, fun _ => box_lt h3⟩⟩
    have e : cur.toList[i]? = ((List.range p.length).map vs)[i]? := by rw [← h7, List.getElem?_take_of_lt (by omega)]
    have e2 : cur[i]? = cur.toList[i]? := by simp
    rw [e2, e]
    simp [hi]
end Go.Proofs.Ythhkbfjolmgloaa
namespace Go.Proofs.Ythhkbfjolmgloaa
open Go.RowKit
set_option linter.unusedVariables false
set_option linter.unusedSimpArgs false
set_option maxRecDepth 100000 in
set_option maxHeartbeats 8000000 in
theorem look_over {w : World} {B gs : Nat} {l : Line} {p : List (List Int)} {last : Int} {gp : Nat} {A0 : Option Addr} {c0 : Nat} {A2 : Option Addr} {c2 : Nat} {AR : Option Addr} {cR gr : Nat} {vs : Nat → Value} {n : Nat} {c : Int} {b : List (List Int)} (P : Plc w B 138 l p last gp A0 c0 A2 c2 AR cR gr vs) (O : Ok l) (G : Good l p last) (hl : last ≤ 1000000) (hA : AccIs w gs l A0 c0 A2 c2 (some (c, b))) (hov : c < floorS l p last) :
    Calls Try.prog 84 #[.pointer (some ⟨gs, 0, none⟩), .pointer (some ⟨gp, 0, none⟩), .int .i64 n] w fun e w' => (∃ v, e = .returned v) ∧ AccIs w' gs l A0 c0 A2 c2 (some (c, b)) ∧ Ext w w' := by
  have hA0 := Lib.hid hA
  obtain ⟨has, c', AP, m, cP, h1, h2, h3, _⟩ := hA
  rw [h2, h3] at h1
  clear h2 h3
  have HR := Lib.hid P.rd
  have HO := Lib.hid O
  have HF := Lib.hid (G.few hl)
  have hl0 := G.last0
  have s3 := box_cell h1 3
  have s4 := box_cell h1 4
  have hsl := box_lt h1
  have hd : decide (c < floorS l p last) = true := by simp; omega
  clear P O G h1
  go_enter Try.func84, Try.ntmps84
  go_wp2_with fail
  refine (floor_any HR.out HO.out HF.out hl0 hl).mono ?_
  rintro e w1 ⟨rfl, hE⟩
  obtain ⟨k1, k2⟩ := (Lp.of_ext hE).open0
  have HA1 := Lib.hid (hA0.out.ext hE)
  go_wp2_with fail
  exact bodyPost_ret (v := .tuple #[]) (by simp [results, Try.results84, go_sem]) rfl ⟨⟨_, rfl⟩, HA1.out, by first | exact hE | exact Ext.trans (by repeat (first | (with_reducible assumption) | (with_reducible exact Ext.refl _) | apply Ext.alloc | apply Ext.drewN | apply Ext.drew)) hE⟩
set_option maxRecDepth 100000 in
set_option maxHeartbeats 8000000 in
theorem look_first {w : World} {B gs : Nat} {l : Line} {p : List (List Int)} {last : Int} {gp : Nat} {A0 : Option Addr} {c0 : Nat} {A2 : Option Addr} {c2 : Nat} {AR : Option Addr} {cR gr : Nat} {vs : Nat → Value} (P : Plc w B 138 l p last gp A0 c0 A2 c2 AR cR gr vs) (O : Ok l) (G : Good l p last) (hl : last ≤ 1000000) (hf : Fits l p) (hB : gs < B) (hA : AccIs w gs l A0 c0 A2 c2 none) :
    Calls Try.prog 84 #[.pointer (some ⟨gs, 0, none⟩), .pointer (some ⟨gp, 0, none⟩), .int .i64 0] w fun e w' => (∃ v, e = .returned v) ∧ AccIs w' gs l A0 c0 A2 c2 (some (floorS l p last, p)) ∧ Chg (fun g => g = gs) w w' := by
  obtain ⟨has, c', AP, m, cP, h1, rfl⟩ := hA
  have HP := Lib.hid P
  have HR := Lib.hid P.rd
  have p3 := P.rd.b3
  have hgp := P.rd.lt
  have HO := Lib.hid O
  have HFW := Lib.hid (G.few hl)
  have HFT := Lib.hid hf
  have hl0 := G.last0
  have s3 := box_cell h1 3
  have s4 := box_cell h1 4
  have s5 := box_cell h1 5
  have sf := box_frozen h1
  have hsl := box_lt h1
  have HB := Lib.hid h1
  clear P O G h1 hf
  go_enter Try.func84, Try.ntmps84
  go_wp2_with fail
  refine (floor_any HR.out HO.out HFW.out hl0 hl).mono ?_
  rintro e w1 ⟨rfl, hE⟩
  obtain ⟨k1, k2⟩ := (Lp.of_ext hE).open0
  have HB1 := Lib.hid (hE.box HB.out)
  have sf1 := box_frozen HB1.out
  have hne : gp ≠ gs := by have := HP.out.lop; omega
  have hne2 : gs ≠ gp := Ne.symm hne
  have hne3 : ¬ gp = gs := hne
  have hne4 : ¬ gs = gp := hne2
  have p3w : w1.cell? ⟨gp, 3, none⟩ = some (.slice AR l.trains.length cR) := (k1 gp 3 hgp).trans p3
  go_upto_region 3 with fail
  go_quiet (fail)
  go_wp2_with fail
  have key : ∀ (k : Nat), AccIs (((((w1.drewN k).setCell ⟨gs, 3, none⟩ (.bool true)).setCell ⟨gs, 4, none⟩ (.int .i64 (floorS l p last))).setCell ⟨gs, 5, none⟩ (.slice AR l.trains.length cR))) gs l A0 c0 A2 c2 (some (floorS l p last, p)) ∧ Chg (fun g => g = gs) w ((((w1.drewN k).setCell ⟨gs, 3, none⟩ (.bool true)).setCell ⟨gs, 4, none⟩ (.int .i64 (floorS l p last))).setCell ⟨gs, 5, none⟩ (.slice AR l.trains.length cR)) := fun k => by
    have hC := (((Chg.of_ext (S := fun g => g = gs) (hE.drewN k)).setCell (Or.inl rfl) 3 (.bool true)).setCell (Or.inl rfl) 4 (.int .i64 (floorS l p last))).setCell (g := gs) (Or.inl rfl) 5 (.slice AR l.trains.length cR)
    refine ⟨⟨true, floorS l p last, AR, l.trains.length, cR, by rw [box_set (box_set (box_set (show (w1.drewN k).heap[gs]? = _ from HB1.out) _ _) _ _) _ _]; rfl, rfl, rfl, HP.out.rows, HFT.out, gr, vs, ((HP.out.prows.chg hC (fun g h => by omega)).mono (by omega))⟩, hC⟩
  exact bodyPost_ret (v := .tuple #[]) (by simp [results, Try.results84, go_sem]) rfl ⟨⟨_, rfl⟩, key _⟩
end Go.Proofs.Ythhkbfjolmgloaa
namespace Go.Proofs.Ythhkbfjolmgloaa
open Go.RowKit
set_option linter.unusedVariables false
set_option linter.unusedSimpArgs false
theorem Plc.chg {S : Nat → Prop} {w w' : World} {lo : Nat} {T : TypeId} {l : Line} {p : List (List Int)} {last : Int} {gp : Nat} {A0 : Option Addr} {c0 : Nat} {A2 : Option Addr} {c2 : Nat} {AR : Option Addr} {cR gr : Nat} {vs : Nat → Value} (P : Plc w lo T l p last gp A0 c0 A2 c2 AR cR gr vs) (C : Chg S w w') (hS : ∀ g, S g → g < lo)
    (hL : ∀ W, Below lo w' W → IsLine W l (.agg #[.slice A0 l.tracks.length c0, .int .i64 l.gap, .slice A2 l.trains.length c2])) : Plc w' lo T l p last gp A0 c0 A2 c2 AR cR gr vs :=
  ⟨hL, C.box P.box (fun h => by have := hS gp h; have := P.lop; omega), fun hn => by obtain ⟨h1, cs, h2, h3⟩ := P.base hn; exact ⟨h1, cs, C.box h2 (fun h => by have := hS gr h; have := P.lor; omega), h3⟩, fun i hi => ownsRow_chg (P.own i hi) C hS, P.apart, P.far, P.rows, P.lop, P.lor, P.ne⟩
/-- The line stays as long as the blocks ahead of the search do. -/
def LB (gs : Nat) (w : World) (l : Line) (A0 : Option Addr) (c0 : Nat) (A2 : Option Addr) (c2 : Nat) : Prop := ∀ W, Below gs w W → IsLine W l (.agg #[.slice A0 l.tracks.length c0, .int .i64 l.gap, .slice A2 l.trains.length c2])
theorem LB.chg {gs : Nat} {w w' : World} {l : Line} {A0 : Option Addr} {c0 : Nat} {A2 : Option Addr} {c2 : Nat} (h : LB gs w l A0 c0 A2 c2) (C : Chg (fun g => g = gs) w w') (hg : gs ≤ w.heap.size) : LB gs w' l A0 c0 A2 c2 :=
  fun W hW => h W (Below.trans (C.below (fun g e => by subst e; exact Nat.le_refl _) hg) hW)
theorem lookS_over {l : Line} {fl : Int → Int} {n : Nat} {p : List (List Int)} {last : Int} {acc : Acc} (h : over (floorS l p (fl last)) acc = true) : lookS l fl n p last acc = acc := by
  cases n with
  | zero => simp only [lookS, h, if_true]
  | succ n => simp only [lookS, h, if_true]
def kidF (l : Line) (fl : Int → Int) (n : Nat) (p : List (List Int)) (last : Int) (i : Nat) (acc : Acc) : Acc := match kid l p last i with | none => acc | some s => lookS l fl n s.1 s.2 acc
theorem lookS_go {l : Line} {fl : Int → Int} {n : Nat} {p : List (List Int)} {last : Int} {acc : Acc} (h : over (floorS l p (fl last)) acc = false) : lookS l fl (n + 1) p last acc = foldF (kidF l fl n p last) 0 l.trains.length acc := by
  simp only [lookS, h]; rfl
theorem lookS_end {l : Line} {fl : Int → Int} {p : List (List Int)} {last : Int} {acc : Acc} (h : over (floorS l p (fl last)) acc = false) : lookS l fl 0 p last acc = updS l p (floorS l p (fl last)) acc := by
  simp only [lookS, h]; rfl
theorem kidF_full {l : Line} {fl : Int → Int} {n : Nat} {p : List (List Int)} {last : Int} {i : Nat} {acc : Acc} (h : ¬ rl p i < (l.tr i).legs.length) : kidF l fl n p last i acc = acc := by
  unfold kidF kid
  rw [if_neg (show ¬ (p.getD i []).length < (l.tr i).legs.length from h)]
theorem kidF_none {l : Line} {fl : Int → Int} {n : Nat} {p : List (List Int)} {last : Int} {i : Nat} {acc : Acc} (h : rl p i < (l.tr i).legs.length) (hs : stepT l p last i = none) : kidF l fl n p last i acc = acc := by
  unfold kidF kid
  rw [if_pos (show (p.getD i []).length < (l.tr i).legs.length from h), hs]
  rfl
theorem kidF_some {l : Line} {fl : Int → Int} {n : Nat} {p : List (List Int)} {last t : Int} {i : Nat} {acc : Acc} (h : rl p i < (l.tr i).legs.length) (hs : stepT l p last i = some t) : kidF l fl n p last i acc = lookS l fl n (put p i t) t acc := by
  unfold kidF kid
  rw [if_pos (show (p.getD i []).length < (l.tr i).legs.length from h), hs]
  rfl
/-- What a call of look with n legs left does. -/
def LookC (l : Line) (gs : Nat) (A0 : Option Addr) (c0 : Nat) (A2 : Option Addr) (c2 : Nat) (n : Nat) : Prop :=
  ∀ (w : World) (B : Nat) (p : List (List Int)) (last : Int) (gp : Nat) (AR : Option Addr) (cR gr : Nat) (vs : Nat → Value) (acc : Acc), Plc w B 138 l p last gp A0 c0 A2 c2 AR cR gr vs → Good l p last → (n : Int) = remain l p → n ≤ 10 → last + 20000 * n ≤ 400000 → gs < B → LB gs w l A0 c0 A2 c2 → AccIs w gs l A0 c0 A2 c2 acc →
    Calls Try.prog 84 #[.pointer (some ⟨gs, 0, none⟩), .pointer (some ⟨gp, 0, none⟩), .int .i64 n] w fun e w' => (∃ v, e = .returned v) ∧ AccIs w' gs l A0 c0 A2 c2 (lookS l id n p last acc) ∧ Chg (fun g => g = gs) w w'
set_option maxRecDepth 100000 in
set_option maxHeartbeats 8000000 in
theorem look_loop {l : Line} {gs : Nat} {A0 : Option Addr} {c0 : Nat} {A2 : Option Addr} {c2 : Nat} {n : Nat} (O : Ok l) (IH : LookC l gs A0 c0 A2 c2 n) {w : World} {B : Nat} {p : List (List Int)} {last : Int} {gp : Nat} {AR : Option Addr} {cR gr : Nat} {vs : Nat → Value} {acc : Acc}
    (P : Plc w B 138 l p last gp A0 c0 A2 c2 AR cR gr vs) (G : Good l p last) (hn : (n : Int) + 1 = remain l p) (h10 : n + 1 ≤ 10) (hl : last + 20000 * (n + 1) ≤ 400000) (hB : gs < B) (hL : LB gs w l A0 c0 A2 c2) (hA : AccIs w gs l A0 c0 A2 c2 acc) (hov : over (floorS l p last) acc = false) :
    Calls Try.prog 84 #[.pointer (some ⟨gs, 0, none⟩), .pointer (some ⟨gp, 0, none⟩), .int .i64 ((n : Int) + 1)] w fun e w' => (∃ v, e = .returned v) ∧ AccIs w' gs l A0 c0 A2 c2 (lookS l id (n + 1) p last acc) ∧ Chg (fun g => g = gs) w w' := by
  have HA := Lib.hid hA
  obtain ⟨has, c', AP, m, cP, h1, h2⟩ := hA
  have hgo : has = false ∨ (has = true ∧ decide (c' < floorS l p last) = false) := by
    cases acc with
    | none => exact Or.inl h2
    | some cb => obtain ⟨c, b⟩ := cb; obtain ⟨q1, rfl, _⟩ := h2; exact Or.inr ⟨q1, hov⟩
  have HT : Hid (foldF (kidF l id n p last) 0 l.trains.length acc = lookS l id (n + 1) p last acc) := (lookS_go (fl := id) hov).symm
  have HP := Lib.hid P
  have HR := Lib.hid P.rd
  have HO := Lib.hid O
  have HG := Lib.hid G
  have HLB := Lib.hid hL
  have HIH := Lib.hid IH
  have HN := Lib.hid hn
  have HFW := Lib.hid (G.few (by omega))
  have hl0 := G.last0
  have n5 := O.bd.n5
  have hBw := P.lo_le
  have s2 := box_cell h1 2
  have s3 := box_cell h1 3
  have s4 := box_cell h1 4
  have hsl := box_lt h1
  have hw1 : IntKind.i64.wrap ((n : Int) + 1 - 1) = (n : Int) := by rw [IntWalk.i64_in _ (by omega)]; omega
  have hz : (((n : Int) + 1) == 0) = false := by simp; omega
  clear P O G hL IH h1 h2 hov hn
  rcases hgo with rfl | ⟨rfl, hno⟩
  all_goals (
    go_enter Try.func84, Try.ntmps84
    go_wp2_with fail
    refine (floor_any HR.out HO.out HFW.out hl0 (by omega)).mono ?_
    rintro e w1 ⟨rfl, hE⟩
    obtain ⟨k1, k2⟩ := (Lp.of_ext hE).open0
    go_wp2_with fail
    go_loopw [69] (fun j wr => ∃ (jj : Nat) (acc' : Acc), jj ≤ l.trains.length ∧ j = .int .i64 jj ∧ Hid (foldF (kidF l id n p last) jj l.trains.length acc' = lookS l id (n + 1) p last acc) ∧ Hid (AccIs wr gs l A0 c0 A2 c2 acc') ∧ Chg (fun g => g = gs) w wr) (fun j _ => l.trains.length - (intOf j).toNat)
    case atStart => exact ⟨0, acc, Nat.zero_le _, rfl, HT, HA.out.ext hE, Chg.of_ext hE⟩
    case round =>
      clear k1 k2 hE HT HA
      obtain ⟨jj, acc', hjj, rfl, HT, HA, hC⟩ := hrel
      have hsz := hC.size
      have hLr := Lib.hid (HLB.out.chg hC (by omega))
      have hPr := Lib.hid (HP.out.chg hC (fun g e => by subst e; exact hB) (fun W hW => hLr.out W (Below.mono hW (by omega))))
      by_cases hlt : jj < l.trains.length
      · have h10r : ∀ i, i < l.trains.length → rl p i ≤ 10 := fun i hi => Nat.le_trans (HG.out.len i hi) (HO.out.bd.nl1 i hi).2
        have H10R := Lib.hid h10r
        clear h10r
        go_wp2_with fail
        refine (copy_any hPr.out n5 H10R.out).mono ?_
        rintro e w2 ⟨gp', AR', cR', gr', vs', rfl, hP2, hE2⟩
        have HP2 := Lib.hid hP2; clear hP2
        go_wp2_with fail
        refine (next_any HP2.out HO.out HG.out (by omega) hlt).mono ?_
        rintro e w3 (⟨hf, rfl, hE3⟩ | ⟨hf, hs, rfl, hE3⟩ | ⟨hf, t, v, hs, rfl, hP3, hC3, _⟩)
        · have hT2 : Hid (foldF (kidF l id n p last) (jj + 1) l.trains.length acc' = lookS l id (n + 1) p last acc) := by
            have := HT.out; rw [foldF_at _ hlt, kidF_full hf] at this; exact this
          have HA3 := Lib.hid (HA.out.ext (hE2.trans hE3))
          have hC' := hC.trans (Chg.of_ext (hE2.trans hE3))
          clear HT HA hf
          go_wp2_with fail
          exact ⟨⟨jj + 1, acc', by omega, by go_num, hT2.out, HA3.out, hC'⟩, (by simp [intOf]; omega)⟩
        · have hT2 : Hid (foldF (kidF l id n p last) (jj + 1) l.trains.length acc' = lookS l id (n + 1) p last acc) := by
            have := HT.out; rw [foldF_at _ hlt, kidF_none hf hs] at this; exact this
          have HA3 := Lib.hid (HA.out.ext (hE2.trans hE3))
          have hC' := hC.trans (Chg.of_ext (hE2.trans hE3))
          clear HT HA hf hs
          go_wp2_with fail
          exact ⟨⟨jj + 1, acc', by omega, by go_num, hT2.out, HA3.out, hC'⟩, (by simp [intOf]; omega)⟩
        · have hT2 : Hid (foldF (kidF l id n p last) (jj + 1) l.trains.length (lookS l id n (put p jj t) t acc') = lookS l id (n + 1) p last acc) := by
            have := HT.out; rw [foldF_at _ hlt, kidF_some hf hs] at this; exact this
          have hE3 : Ext wr w3 := Below.trans hE2 (hC3.below (fun g hg => by
              rcases hg with rfl | rfl | h
              · exact HP2.out.lop
              · exact HP2.out.lor
              · exact ((HP2.out.own jj hlt).lt g h).1) HP2.out.lo_le)
          have HA3 := Lib.hid (HA.out.ext hE3)
          have hC' := hC.trans (Chg.of_ext hE3)
          have HP3 := Lib.hid hP3
          have hip : jj < p.length := by rw [HP2.out.rows]; exact hlt
          have hbd := stepT_ok HO.out HG.out hlt hf (by omega) hs
          have HG3 := Lib.hid (HG.out.step HO.out hlt hf (by omega) hs)
          have HN3 : Hid ((n : Int) = remain l (put p jj t)) := by unfold Hid; rw [remain_put hip hlt, ← HN.out]; omega
          have HCL := Lib.hid (HIH.out w3 wr.heap.size (put p jj t) t gp' AR' cR' gr' _ acc' HP3.out HG3.out HN3.out (by omega) (by omega) (by omega) (HLB.out.chg hC' (by omega)) HA3.out)
          clear HT HA hf hs hP3 hC3 hbd
          go_wp2_with fail
          refine HCL.out.mono ?_
          rintro e w4 ⟨⟨v4, rfl⟩, hA4, hC4⟩
          have HA4 := Lib.hid hA4; clear hA4
          have hC5 := hC'.trans hC4
          go_wp2_with fail
          exact ⟨⟨jj + 1, _, by omega, by go_num, hT2.out, HA4.out, hC5⟩, (by simp [intOf]; omega)⟩
      · obtain rfl : jj = l.trains.length := by omega
        have hT2 : lookS l id (n + 1) p last acc = acc' := by
          have := HT.out; rw [foldF_end _ (Nat.le_refl _)] at this; exact this.symm
        have HTT := Lib.hid hT2; clear hT2
        go_wp2_with fail
        exact bodyPost_end (v := .tuple #[]) (by simp [results, Try.results84, go_sem]) rfl ⟨⟨_, rfl⟩, by rw [HTT.out]; exact HA.out, hC⟩)
end Go.Proofs.Ythhkbfjolmgloaa
