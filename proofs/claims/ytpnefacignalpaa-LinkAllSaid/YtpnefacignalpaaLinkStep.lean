/- Each call of an end or of the net, as a step of the plain model. Conditions: those typed. -/
import Derived.Test.YtpnefacignalpaaLinkAt
import Derived.Test.YtpnefacignalpaaNetT
namespace Go.Proofs.Ytpnefacignalpaa
open Go.RowKit Go.Gy
set_option linter.unusedVariables false
set_option linter.unusedSimpArgs false
/-- an end's parts are small enough for the calls -/
structure MEok (n : Nat) (x : ME) : Prop where
  nx : 0 ≤ x.nx ∧ x.nx ≤ n
  ws : x.ws.length ≤ n
  la : ∀ y ∈ x.ws, -1 ≤ y.2 ∧ y.2 ≤ 2000
theorem MEok.mono {n n' : Nat} {x : ME} (h : MEok n x) (hn : n ≤ n') : MEok n' x := ⟨by have := h.nx; omega, Nat.le_trans h.ws hn, h.la⟩
section
variable {w W W' : World} {base V6 V7 V9 V10 B : Nat} {FS : List GF} {T : Int} {K : List AK} {E : Nat → Nat} {x : Nat → ME} {u : Nat → Value} {gl : Nat → List SM}
theorem LkS.in_ {i n k : Nat} {m : GMsg} {y : ES} {e : Ending} (h : LkS w base V6 V7 V9 V10 B FS E T K x u gl W) (hi : i < 2) (hok : MEok k (x i)) (hp : InPost W base (E i) (i : Int) ((oth i : Nat) : Int) (x i).nx (x i).wt (x i).ow (x i).vw (x i).ws (x i).vg (x i).gs m n e W') (hy : inS (i : Int) ((oth i : Nat) : Int) (x i).abs m = some y) :
    e = .returned (.int .i64 0) ∧ ∃ y' : ME, y'.abs = y ∧ MEok k y' ∧ y'.gs.length ≤ (x i).gs.length + 1 ∧ LkS w base V6 V7 V9 V10 B FS E T K (updN x i y') u gl W' ∧ Mod (EndF (E i) (x i).vw (x i).vg) W W' ∧ NearV W (x i).vw y'.vw ∧ NearV W (x i).vg y'.vg := by
  unfold inS at hy
  split at hy
  · rename_i h0
    have h0 : inC m (i : Int) ((oth i : Nat) : Int) (x i).nx = 0 := h0
    injection hy with hy
    obtain ⟨he, hp⟩ := hp
    rw [h0] at he
    refine ⟨he, ?_⟩
    rcases hp with ⟨h1, _⟩ | ⟨_, hk, vw', h1, h2, h3⟩ | ⟨_, hk, hq, h1, h3⟩ | ⟨_, hk, hq, vg', A', c', h1, h2, h3⟩
    · exact absurd h0 h1
    · rw [if_pos hk] at hy
      refine ⟨⟨(x i).nx, (x i).wt, (x i).ow, vw', (x i).ws.dropWhile (ackB m.seq), (x i).vg, (x i).gs⟩, ?_, ⟨hok.nx, Nat.le_trans (List.dropWhile_sublist _).length_le hok.ws, fun z hz => hok.la z ((List.dropWhile_sublist _).mem hz)⟩, Nat.le_succ _, h.end_ hi h1 h3 (fun g hg => .inl (h2 g hg)) (fun g hg => .inl hg), h3, (fun g hg => .inl (h2 g hg)), (fun g hg => .inl hg)⟩
      rw [← hy]
      unfold ME.abs
      simp only [List.dropWhile_map]
      rfl
    · rw [if_neg hk, if_neg (show ¬ m.seq = (x i).abs.wt from hq)] at hy
      refine ⟨⟨(x i).nx, (x i).wt, true, (x i).vw, (x i).ws, (x i).vg, (x i).gs⟩, by rw [← hy]; rfl, ⟨hok.nx, hok.ws, hok.la⟩, Nat.le_succ _, h.end_ hi h1 h3 (fun g hg => .inl hg) (fun g hg => .inl hg), h3, (fun g hg => .inl hg), (fun g hg => .inl hg)⟩
    · rw [if_neg hk, if_pos (show m.seq = (x i).abs.wt from hq)] at hy
      refine ⟨⟨(x i).nx, (x i).wt + 1, true, (x i).vw, (x i).ws, vg', (x i).gs ++ [⟨m, A', n, c'⟩]⟩, ?_, ⟨hok.nx, hok.ws, hok.la⟩, by simp, h.end_ hi h1 h3 (fun g hg => .inl hg) h2, h3, (fun g hg => .inl hg), h2⟩
      rw [← hy]
      unfold ME.abs
      simp
  · cases hy
theorem LkS.put_ {i n k : Nat} {kind : Int} {l : List Cell} {y : ES} {e : Ending} (h : LkS w base V6 V7 V9 V10 B FS E T K x u gl W) (hi : i < 2) (hok : MEok k (x i)) (hp : PutPost W base (E i) (i : Int) ((oth i : Nat) : Int) (x i).nx (x i).wt (x i).ow (x i).vw (x i).ws (x i).vg (x i).gs kind l n e W') (hy : putS (x i).abs (i : Int) ((oth i : Nat) : Int) kind l = some y) :
    e = .returned (.int .i64 0) ∧ ∃ y' : ME, y'.abs = y ∧ MEok (k + 1) y' ∧ y'.gs = (x i).gs ∧ LkS w base V6 V7 V9 V10 B FS E T K (updN x i y') u gl W' := by
  unfold putS at hy
  split at hy
  · rename_i h0
    have h0 : putC kind (i : Int) ((oth i : Nat) : Int) (x i).nx l (x i).ws.length = 0 := by
      have := h0
      simpa [ME.abs] using this
    injection hy with hy
    obtain ⟨he, hp⟩ := hp
    rw [h0] at he
    refine ⟨he, ?_⟩
    rcases hp with ⟨h1, _⟩ | ⟨_, vw', A', c', h1, h2, h3⟩
    · exact absurd h0 h1
    · refine ⟨⟨(x i).nx + 1, (x i).wt, (x i).ow, vw', (x i).ws ++ [(⟨⟨kind, i, (oth i : Nat), (x i).nx, 0, l⟩, A', n, c'⟩, -1)], (x i).vg, (x i).gs⟩, ?_, ⟨by have := hok.nx; simp only; omega, by have := hok.ws; simp; omega, fun z hz => ?_⟩, rfl, h.end_ hi h1 h3 h2 (fun g hg => .inl hg)⟩
      · rw [← hy]
        unfold ME.abs
        simp [absW]
      · rcases List.mem_append.1 hz with hz | hz
        · exact hok.la z hz
        · rw [List.mem_singleton.1 hz]
          exact ⟨by simp only; omega, by simp only; omega⟩
  · cases hy
theorem curP_abs (T : Int) (l : List WK) : (curW T l 8).map absW = curP T (l.map absW) := by
  unfold curW curP
  rw [List.map_append, ← List.map_take, ← List.map_drop, List.map_map, List.map_map]
  congr 1
  refine List.map_congr_left (fun y _ => ?_)
  by_cases h : y.2 < 0 ∨ 4 ≤ T - y.2
  · simp [Function.comp, updW, dueB, dueP, absW, h]
  · simp [Function.comp, updW, dueB, dueP, absW, h]
theorem outG_abs (T ck : Int) (a b : Int) (x : ME) : outL T ck x.ow a b x.wt x.ws = outG x.abs a b T ck := by
  unfold outL outG ME.abs
  simp only
  rw [← List.map_take, List.filter_map, List.map_map]
  rfl
theorem LkS.out_ {i k : Nat} {Tm ck : Int} {e : Ending} (h : LkS w base V6 V7 V9 V10 B FS E T K x u gl W) (hi : i < 2) (hok : MEok k (x i)) (hT : 0 ≤ Tm ∧ Tm ≤ 2000) (hp : OutPost W base (E i) (i : Int) ((oth i : Nat) : Int) (x i).nx (x i).wt (x i).ow (x i).vw (x i).ws (x i).vg (x i).gs Tm ck e W') :
    ∃ (A : Option Addr) (c : Nat) (Ls : List SM) (y' : ME), e = .returned (.slice A Ls.length c) ∧ Ls.map (·.m) = outG (x i).abs (i : Int) ((oth i : Nat) : Int) Tm ck ∧ W'.ownsRow W.heap.size 43 6 (.slice A Ls.length c) Ls.length (Ls.flatMap encM) ∧ (∀ s ∈ Ls, MOwn W' W.heap.size s) ∧ y'.abs = { (x i).abs with ow := false, ws := curP Tm (x i).abs.ws } ∧ MEok k y' ∧ y'.gs = (x i).gs ∧ LkS w base V6 V7 V9 V10 B FS E T K (updN x i y') u gl W' := by
  obtain ⟨out, Ls, he, h1, h2, h3, h4, h5⟩ := hp
  obtain ⟨A, c, rfl, _⟩ := own_rd h2
  refine ⟨A, c, Ls, ⟨(x i).nx, (x i).wt, false, (x i).vw, curW Tm (x i).ws 8, (x i).vg, (x i).gs⟩, he, by rw [h1, outG_abs], h2, h3, ?_, ⟨hok.nx, by simp only; rw [curW_len]; exact hok.ws, fun z hz => ?_⟩, rfl, h.end_ hi h4 h5 (fun g hg => .inl hg) (fun g hg => .inl hg)⟩
  · unfold ME.abs
    simp only
    rw [curP_abs]
  · rcases List.mem_append.1 hz with hz | hz
    · obtain ⟨y, hy, rfl⟩ := List.mem_map.1 hz
      have := hok.la y (List.mem_of_mem_take hy)
      unfold updW
      split
      · exact ⟨by simp only; omega, by simp only; omega⟩
      · exact this
    · exact hok.la z (List.mem_of_mem_drop hz)
theorem LkS.send_ {t : Int} {m : GMsg} {v : Value} {e : Ending} (h : LkS w base V6 V7 V9 V10 B FS E T K x u gl W) (hN : NetAt W base B FS T v K) (hc : sendC FS T K t m = 0) (hp : SendPost W base B FS T v K t m e W') :
    e = .returned (.int .i64 0) ∧ LkS w base V6 V7 V9 V10 B FS E t (K ++ flightsF FS t m) x u gl W' ∧ ∃ F, Mod F W W' ∧ ∀ g t cs, Blk W g t cs → F g → t = 79 ∨ t = 82 := by
  obtain ⟨v', he, h1, h2, _⟩ := hp
  unfold sendT sendK at h1
  rw [hc, if_pos rfl, if_pos rfl] at h1
  rw [hc] at he
  have hB := hN.lo
  have hvl := hN.vlt
  obtain ⟨_, _, Af, nf, cf, ks, _, hk, _, _, hv, _⟩ := id hN
  have hF : ∀ g t cs, Blk W g t cs → NetF B v g → t = 79 ∨ t = 82 := fun g t cs hkb hf => by
    rcases hf with e | e
    · subst e
      exact .inl (blk_type hkb hk)
    · obtain ⟨cs', hk'⟩ := own_blk hv e
      exact .inr (blk_type hkb hk')
  refine ⟨he, h.net_ h2 hF (fun g hf => ?_) ⟨v', h1⟩, _, h2, hF⟩
  · rcases hf with e | e
    · rw [e]; exact hB
    · exact (hvl g e).1
theorem LkS.take_ {t rcv : Int} {v : Value} {e : Ending} (h : LkS w base V6 V7 V9 V10 B FS E T K x u gl W) (hN : NetAt W base B FS T v K) (hp : TakePost W base B FS T K t rcv e W') :
    ∃ (A : Option Addr) (c : Nat) (Ls : List SM), e = .returned (.slice A Ls.length c) ∧ Ls.map (·.m) = (takeL K t rcv).map (·.2) ∧ Ls.length ≤ 1000 ∧ W'.ownsRow W.heap.size 43 6 (.slice A Ls.length c) Ls.length (Ls.flatMap encM) ∧ (∀ s ∈ Ls, MOwn W' base s) ∧ LkS w base V6 V7 V9 V10 B FS E T (restL K t rcv) x u gl W' := by
  obtain ⟨out, Ls, v', rfl, h1, h2, h3, h4, h5, h6⟩ := hp
  obtain ⟨A, c, rfl, _⟩ := own_rd h2
  have hB := hN.lo
  have hok := hN.ok.take t rcv
  obtain ⟨_, _, Af, nf, cf, ks, _, hk, _⟩ := hN
  refine ⟨A, c, Ls, rfl, h1, ?_, h2, h3, h.net_ h6 (fun g t cs hkb e => .inl (by subst e; exact blk_type hkb hk)) (fun g e => by rw [e]; exact hB) ⟨v', h4⟩⟩
  have := congrArg List.length h1
  rw [List.length_map, List.length_map] at this
  rw [this]
  exact hok.1
theorem mown_off {W : World} {base E : Nat} {a b nx wt : Int} {ow : Bool} {vw vg : Value} {ws : List WK} {gs : List SM} {s : SM} (h : EndAt W base E a b nx wt ow vw ws vg gs) (hs : MOwn W base s) : 0 < s.n → ∀ p, s.A = some p → ¬ EndF E vw vg p.block := fun h0 p hp hf => by
  obtain ⟨cs, hk⟩ := own_blk hs.1 (g := p.block) (by rw [hp]; rfl)
  rcases h.typ hk hf with e | e | e <;> exact absurd e (by decide)
theorem LkS.ltake_ {i k : Nat} {e : Ending} (h : LkS w base V6 V7 V9 V10 B FS E T K x u gl W) (hi : i < 2) (hok : MEok k (x i)) (hp : e = .returned (x i).vg ∧ W'.ownsRow base 43 6 (x i).vg (x i).gs.length ((x i).gs.flatMap encM) ∧ (∀ g ∈ (x i).gs, MOwn W' base g) ∧ EndAt W' base (E i) (i : Int) ((oth i : Nat) : Int) (x i).nx (x i).wt (x i).ow (x i).vw (x i).ws (.slice none 0 0) [] ∧ Mod (fun g => g = E i) W W') :
    e = .returned (x i).vg ∧ W'.ownsRow base 43 6 (x i).vg (x i).gs.length ((x i).gs.flatMap encM) ∧ (∀ g ∈ (x i).gs, MOwn W' base g) ∧ LkS w base V6 V7 V9 V10 B FS E T K (updN x i { x i with vg := .slice none 0 0, gs := [] }) u gl W' := by
  obtain ⟨he, h1, h2, h3, h4⟩ := hp
  exact ⟨he, h1, h2, h.end_ hi h3 (h4.mono (fun k _ e => Or.inl e)) (fun g hg => .inl hg) (fun g hg => (by cases hg))⟩
end
end Go.Proofs.Ytpnefacignalpaa
