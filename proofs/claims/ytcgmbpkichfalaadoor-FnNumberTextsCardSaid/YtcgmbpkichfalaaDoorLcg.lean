/- The sequence of states of a source of numbers: its period, and how long a run of multiples of three can be. No walk, no condition. -/
import Derived.Lib.Hide
namespace Lcg
/-- the next state -/
def nx (h : Int) : Int := (h * 6364136223846793005 + 1442695040888963407) % 18446744073709551616
def it : Nat → Int → Int
  | 0, h => h
  | n + 1, h => it n (nx h)
/-- what is drawn of a state -/
def top (z : Int) : Int := z / 8589934592 % 16777216
theorem it_succ (n : Nat) (h : Int) : it (n + 1) h = it n (nx h) := rfl
theorem it_add (m n : Nat) (h : Int) : it (m + n) h = it n (it m h) := by
  induction m generalizing h with
  | zero => rw [Nat.zero_add]; rfl
  | succ m ih => rw [show m + 1 + n = (m + n) + 1 from by omega]; exact ih (nx h)
def tA : List Int := [6364136223846793005, 7520897724310334953, 18108194425815612945, 13086856194709077281, 10186629832379121217, 10828933358287359105, 4910590176156014849, 9908147928152388097, 146241703003251713, 7321387688379467777, 12255457568021647361, 9867978473775767553, 5088048636545613825, 2150478223927705601, 9196835419631190017, 5957860013156466689, 10389140232424652801, 13023643825678581761, 288945459443007489, 13413133364217511937, 8991946233350193153, 1986842707489718273, 13772462672974970881, 11399802156803424257, 13559343778149433345, 8604389488178757633, 16938562998715285505, 14349518013152100353, 5928836310318972929, 13010594125244792833, 12186130195207421953, 5925516316705292289, 11851032633410584577, 5255321193111617537, 10510642386223235073, 2574540698736918529, 5149081397473837057, 10298162794947674113, 2149581516185796609, 4299163032371593217, 8598326064743186433, 17196652129486372865, 15946560185263194113, 13446376296816836609, 8446008519924121601, 16892017039848243201, 15337290005986934785, 12227835938264317953, 6008927802819084289, 12017855605638168577, 5588967137566785537, 11177934275133571073, 3909124476557590529, 7818248953115181057, 15636497906230362113, 12826251738751172609, 7205759403792793601, 14411518807585587201, 10376293541461622785, 2305843009213693953, 4611686018427387905, 9223372036854775809, 1, 1]
def tC : List Int := [1442695040888963407, 1876011003808476466, 7401132627792533940, 6566661184467396264, 3646985772805368400, 982119659650238624, 10607473198416945472, 6914523672464851584, 4689171378020353280, 8103286608563669504, 7710372194127975424, 16043993925053589504, 1993901509916512256, 13175896319671181312, 1993366741509554176, 7241871532530761728, 9829074100562493440, 7211655632440131584, 14014807304630960128, 15586959662575517696, 5614651135149211648, 10449321915693662208, 17778722412968280064, 4631015078550831104, 14683519683525607424, 14159509325327892480, 4382386631181598720, 5251965553014210560, 14899444342342025216, 10487453482519363584, 17516142451218186240, 2750482773444657152, 5500965546889314304, 11001931093778628608, 3557118113847705600, 7114236227695411200, 14228472455390822400, 10010200837072093184, 1573657600434634752, 3147315200869269504, 6294630401738539008, 12589260803477078016, 6731777533244604416, 13463555066489208832, 8480366059268866048, 16960732118537732096, 15474720163365912576, 12502696253022273536, 6558648432334995456, 13117296864669990912, 7787849655630430208, 15575699311260860416, 12704654548812169216, 6962565023914786816, 13925130047829573632, 9403516021949595648, 360287970189639680, 720575940379279360, 1441151880758558720, 2882303761517117440, 5764607523034234880, 11529215046068469760, 4611686018427387904, 9223372036854775808]
def cA (k : Nat) : Int := tA.getD k 0
def cC (k : Nat) : Int := tC.getD k 0
theorem tab_step : ∀ k, k < 63 → cA (k + 1) = cA k * cA k % 18446744073709551616 ∧ cC (k + 1) = (cA k + 1) * cC k % 18446744073709551616 := by decide +kernel
theorem tab_low : ∀ k, k < 64 → cA k % 2 ^ (k + 1) = 1 ∧ cC k % 2 ^ (k + 1) = 2 ^ k := by decide +kernel
theorem emod_of {x y m z : Int} (h : x = y + m * z) : x % m = y % m := by rw [h, Int.add_mul_emod_self_left]
theorem two_maps (A C h : Int) : ((h * A + C) % 18446744073709551616 * A + C) % 18446744073709551616 = (h * (A * A % 18446744073709551616) + (A + 1) * C % 18446744073709551616) % 18446744073709551616 := by
  obtain ⟨x, hx⟩ : ∃ x, x = (h * A + C) / 18446744073709551616 := ⟨_, rfl⟩
  obtain ⟨y, hy⟩ : ∃ y, y = A * A / 18446744073709551616 := ⟨_, rfl⟩
  obtain ⟨z, hz⟩ : ∃ z, z = (A + 1) * C / 18446744073709551616 := ⟨_, rfl⟩
  have e1 : (h * A + C) % 18446744073709551616 = h * A + C - 18446744073709551616 * x := by rw [hx, Int.emod_def]
  have e2 : A * A % 18446744073709551616 = A * A - 18446744073709551616 * y := by rw [hy, Int.emod_def]
  have e3 : (A + 1) * C % 18446744073709551616 = (A + 1) * C - 18446744073709551616 * z := by rw [hz, Int.emod_def]
  rw [e1, e2, e3]
  refine emod_of (z := h * y + z - x * A) ?_
  grind
theorem it_pow : ∀ k, k < 64 → ∀ h : Int, it (2 ^ k) h = (h * cA k + cC k) % 18446744073709551616
  | 0, _, h => rfl
  | k + 1, hk, h => by
    rw [show 2 ^ (k + 1) = 2 ^ k + 2 ^ k from by rw [Nat.pow_succ]; omega, it_add, it_pow k (by omega), it_pow k (by omega), two_maps, (tab_step k (by omega)).1, (tab_step k (by omega)).2]
theorem nx_mod (h : Int) : nx (h % 18446744073709551616) = nx h := by unfold nx; omega
theorem it_mod (n : Nat) (h : Int) : it n (h % 18446744073709551616) % 18446744073709551616 = it n h % 18446744073709551616 := by
  cases n with
  | zero =>
    show (h % 18446744073709551616) % 18446744073709551616 = h % 18446744073709551616
    omega
  | succ n => rw [it_succ, it_succ, nx_mod]
theorem dvd_pow2 {k : Nat} (hk : k < 64) : (2 : Int) ^ (k + 1) ∣ 18446744073709551616 := by
  refine ⟨2 ^ (63 - k), ?_⟩
  rw [← Int.pow_add, show k + 1 + (63 - k) = 64 from by omega]
  decide
theorem it_low {k : Nat} (hk : k < 64) (h : Int) : it (2 ^ k) h % 2 ^ (k + 1) = (h + 2 ^ k) % 2 ^ (k + 1) := by
  rw [it_pow k hk, Int.emod_emod_of_dvd _ (dvd_pow2 hk)]
  obtain ⟨h1, h2⟩ := tab_low k hk
  have e1 := Int.emod_def (cA k) (2 ^ (k + 1))
  have e2 := Int.emod_def (cC k) (2 ^ (k + 1))
  rw [h1] at e1
  rw [h2] at e2
  refine emod_of (z := h * (cA k / 2 ^ (k + 1)) + cC k / 2 ^ (k + 1)) ?_
  generalize cA k / 2 ^ (k + 1) = x at *
  generalize cC k / 2 ^ (k + 1) = y at *
  generalize (2 : Int) ^ (k + 1) = p at *
  generalize (2 : Int) ^ k = q at *
  grind
theorem same_iff {x y m : Int} : x % m = y % m ↔ m ∣ x - y := by
  rw [Int.emod_eq_emod_iff_emod_sub_eq_zero, Int.dvd_iff_emod_eq_zero]
/-- a step of the search: one more bit is right -/
theorem one_bit {p x T : Int} (h : x % p = T % p) (hne : ¬ x % (p * 2) = T % (p * 2)) : (x + p) % (p * 2) = T % (p * 2) := by
  rw [same_iff] at h hne ⊢
  obtain ⟨q, hq⟩ := h
  have hodd : q % 2 = 1 := by
    rcases Int.emod_two_eq q with e | e
    · exfalso
      refine hne ⟨q / 2, ?_⟩
      rw [hq, Int.mul_assoc, show 2 * (q / 2) = q from by omega]
    · exact e
  refine ⟨(q + 1) / 2, ?_⟩
  rw [Int.mul_assoc, show 2 * ((q + 1) / 2) = q + 1 from by omega, Int.mul_add, ← hq]
  omega
theorem reach : ∀ j k, k + j ≤ 64 → ∀ x T : Int, x % 2 ^ k = T % 2 ^ k → ∃ n, n < 2 ^ j ∧ it (2 ^ k * n) x % 2 ^ (k + j) = T % 2 ^ (k + j)
  | 0, k, _, x, T, h => ⟨0, by decide, h⟩
  | j + 1, k, hk, x, T, h => by
    have hp : (2 : Int) ^ (k + 1) = 2 ^ k * 2 := Int.pow_succ _ _
    have ej : 2 ^ (j + 1) = 2 ^ j + 2 ^ j := by rw [Nat.pow_succ]; omega
    by_cases h2 : x % 2 ^ (k + 1) = T % 2 ^ (k + 1)
    · obtain ⟨n, hn, e⟩ := reach j (k + 1) (by omega) x T h2
      refine ⟨2 * n, by omega, ?_⟩
      rw [show 2 ^ k * (2 * n) = 2 ^ (k + 1) * n from by rw [Nat.pow_succ, Nat.mul_assoc], show k + (j + 1) = k + 1 + j from by omega]
      exact e
    · have h3 : it (2 ^ k) x % 2 ^ (k + 1) = T % 2 ^ (k + 1) := by
        rw [it_low (by omega), hp]
        rw [hp] at h2
        exact one_bit h h2
      obtain ⟨n, hn, e⟩ := reach j (k + 1) (by omega) (it (2 ^ k) x) T h3
      refine ⟨1 + 2 * n, by omega, ?_⟩
      rw [← it_add] at e
      rw [show 2 ^ k * (1 + 2 * n) = 2 ^ k + 2 ^ (k + 1) * n from by rw [Nat.mul_add, Nat.mul_one, Nat.pow_succ, Nat.mul_assoc], show k + (j + 1) = k + 1 + j from by omega]
      exact e
theorem top_bd (z : Int) : 0 ≤ top z ∧ top z < 16777216 := by unfold top; omega
theorem top_add (z v : Int) : top ((z + 8589934592 * v) % 18446744073709551616) = (top z + v) % 16777216 := by
  obtain ⟨a, r, hz, h0, h1⟩ : ∃ a r : Int, z = r + 8589934592 * a ∧ 0 ≤ r ∧ r < 8589934592 := ⟨z / 8589934592, z % 8589934592, by omega, by omega, by omega⟩
  obtain ⟨s, t, hs, h2, h3⟩ : ∃ s t : Int, a + v = t + 2147483648 * s ∧ 0 ≤ t ∧ t < 2147483648 := ⟨(a + v) / 2147483648, (a + v) % 2147483648, by omega, by omega, by omega⟩
  have e1 : (z + 8589934592 * v) % 18446744073709551616 = r + 8589934592 * t := by
    rw [show z + 8589934592 * v = (r + 8589934592 * t) + 18446744073709551616 * s from by omega, Int.add_mul_emod_self_left]
    exact Int.emod_eq_of_lt (by omega) (by omega)
  have e2 : (r + 8589934592 * t) / 8589934592 = t := by omega
  have e3 : z / 8589934592 = a := by omega
  unfold top
  rw [e1, e2, e3]
  omega
theorem step3 {y v : Int} (h : y % 3 = 0) (hb : 0 ≤ y ∧ y < 16777216) (hu : v % 16777216 % 3 = 2) : ¬ (y + v) % 16777216 % 3 = 0 := by
  obtain ⟨u, s, hv, h0, h1, hu'⟩ : ∃ u s : Int, v = u + 16777216 * s ∧ 0 ≤ u ∧ u < 16777216 ∧ u % 3 = 2 := ⟨v % 16777216, v / 16777216, by omega, by omega, by omega, hu⟩
  subst hv
  clear hu
  rw [show y + (u + 16777216 * s) = (y + u) + 16777216 * s from by omega, Int.add_mul_emod_self_left]
  by_cases hlt : y + u < 16777216
  · rw [Int.emod_eq_of_lt (by omega) hlt]
    omega
  · rw [show y + u = (y + u - 16777216) + 16777216 * 1 from by omega, Int.add_mul_emod_self_left, Int.emod_eq_of_lt (a := y + u - 16777216) (b := 16777216) (by omega) (by omega)]
    omega
/-- from any state a multiple of three is left within so many strides of four -/
theorem far (x : Int) : ∃ d, d ≤ 2148532224 ∧ ¬ top (it (4 * d) x) % 3 = 0 := by
  have key : ∃ n, n < 1048576 ∧ (it (4 * n) x % 4194304 = 40 ∨ it (4 * n) x % 4194304 = 1 ∨ it (4 * n) x % 4194304 = 42 ∨ it (4 * n) x % 4194304 = 3) := by
    have go : ∀ r : Int, x % 4 = r % 4 → ∃ n, n < 1048576 ∧ it (4 * n) x % 4194304 = r % 4194304 := fun r hr => reach 20 2 (by decide) x r hr
    have h4 : x % 4 = 0 ∨ x % 4 = 1 ∨ x % 4 = 2 ∨ x % 4 = 3 := by omega
    rcases h4 with h | h | h | h
    · obtain ⟨n, h1, h2⟩ := go 40 (by omega); exact ⟨n, h1, .inl h2⟩
    · obtain ⟨n, h1, h2⟩ := go 1 (by omega); exact ⟨n, h1, .inr (.inl h2)⟩
    · obtain ⟨n, h1, h2⟩ := go 42 (by omega); exact ⟨n, h1, .inr (.inr (.inl h2))⟩
    · obtain ⟨n, h1, h2⟩ := go 3 (by omega); exact ⟨n, h1, .inr (.inr (.inr h2))⟩
  obtain ⟨n, hn, hr⟩ := key
  by_cases h : top (it (4 * n) x) % 3 = 0
  · refine ⟨n + 2147483648, by omega, ?_⟩
    rw [show 4 * (n + 2147483648) = 4 * n + 2 ^ 33 from by omega, it_add]
    obtain ⟨z, hz⟩ : ∃ z, z = it (4 * n) x := ⟨_, rfl⟩
    rw [← hz] at h hr ⊢
    clear hz
    rw [it_pow 33 (by decide), show cA 33 = 5255321193111617537 from by decide, show cC 33 = 11001931093778628608 from by decide]
    obtain ⟨v, hv⟩ : ∃ v, v = 611799908 * z + 1280793349 := ⟨_, rfl⟩
    rw [show z * 5255321193111617537 + 11001931093778628608 = z + 8589934592 * v from by omega, top_add]
    have hu : v % 16777216 % 3 = 2 := by
      obtain ⟨q, hq⟩ : ∃ q, q = z / 4194304 := ⟨_, rfl⟩
      clear h hn
      rcases hr with hr | hr | hr | hr
      · have : z = 40 + 4194304 * q := by omega
        clear hr hq
        omega
      · have : z = 1 + 4194304 * q := by omega
        clear hr hq
        omega
      · have : z = 42 + 4194304 * q := by omega
        clear hr hq
        omega
      · have : z = 3 + 4194304 * q := by omega
        clear hr hq
        omega
    exact step3 h (top_bd z) hu
  · exact ⟨n, by omega, h⟩
/-- a target: two states of its row, two steps apart, end the loop -/
def tg (h : Int) : Int := if h % 2 = 0 then 0 else 1
theorem tg_good (h : Int) : ¬ top (nx (tg h)) % 3 = 0 ∧ ¬ top (nx (it 2 (tg h))) % 3 = 0 := by
  unfold tg
  split
  · decide
  · decide
theorem it_two (h : Int) : it 2 h % 2 = h % 2 := by
  show nx (nx h) % 2 = _
  unfold nx
  omega
theorem tg_two (h : Int) : tg (it 2 h) = tg h := by unfold tg; rw [it_two]
/-- at most G heads until the target -/
def Cyc (G : Nat) (h : Int) : Prop := h % 18446744073709551616 = it 2 (tg h) % 18446744073709551616 ∨ ∃ p, p + 1 ≤ G ∧ it (2 * p) h % 18446744073709551616 = tg h % 18446744073709551616
theorem cyc_start (h : Int) : Cyc 9223372036854775808 h := by
  have e : h % 2 ^ 1 = tg h % 2 ^ 1 := by unfold tg; show h % 2 = _ % 2; split <;> omega
  obtain ⟨n, h1, h2⟩ := reach 63 1 (by decide) h (tg h) e
  exact .inr ⟨n, h1, h2⟩
theorem nx_same {x y : Int} (h : x % 18446744073709551616 = y % 18446744073709551616) : nx x = nx y := by rw [← nx_mod, h, nx_mod]
theorem it_same {x y : Int} (n : Nat) (h : x % 18446744073709551616 = y % 18446744073709551616) : it n x % 18446744073709551616 = it n y % 18446744073709551616 := by rw [← it_mod, h, it_mod]
/-- a head that goes on: the next head is nearer -/
theorem cyc_next {G : Nat} {h : Int} (hc : Cyc (G + 1) h) (hb : top (nx h) % 3 = 0) : Cyc G (it 2 h) ∧ Cyc G (it 4 h) := by
  have e4 : it 4 h = it 2 (it 2 h) := it_add 2 2 h
  have t4 : tg (it 4 h) = tg h := by rw [e4, tg_two, tg_two]
  rcases hc with hc | ⟨p, hp, hc⟩
  · exfalso; rw [nx_same hc] at hb; exact (tg_good h).2 hb
  cases p with
  | zero =>
    exfalso
    have hc0 : h % 18446744073709551616 = tg h % 18446744073709551616 := hc
    rw [nx_same hc0] at hb
    exact (tg_good h).1 hb
  | succ p =>
    rw [show 2 * (p + 1) = 2 + 2 * p from by omega, it_add] at hc
    refine ⟨.inr ⟨p, by omega, by rw [tg_two]; exact hc⟩, ?_⟩
    cases p with
    | zero => exact .inl (by rw [t4, e4]; exact it_same 2 hc)
    | succ p =>
      rw [show 2 * (p + 1) = 2 + 2 * p from by omega, it_add] at hc
      exact .inr ⟨p, by omega, by rw [t4, e4]; exact hc⟩
/-- where the loop stands: n bytes, k of them used, a text with len bytes; G rounds at most are to come -/
def At (G len n : Nat) (k h : Int) : Prop :=
  (k < n ∧ (len : Int) + (n - k) ≤ 5000 ∧ (n - k) + 9223372036854775808 ≤ G) ∨ (k = n ∧ Cyc G h ∧ ∃ d : Nat, ¬ top (it (4 * d) (nx h)) % 3 = 0 ∧ len + d ≤ 2148540000)
theorem At.len {G len n : Nat} {k h : Int} (a : At G len n k h) : len ≤ 2148540000 := by
  rcases a with ⟨_, h1, _⟩ | ⟨_, _, d, _, h1⟩ <;> omega
theorem At.start {len n : Nat} {k h : Int} (h1 : len ≤ 100) (h2 : n ≤ 4096) (h3 : 0 ≤ k) (h4 : k ≤ n) : At (9223372036854775808 + 4096) len n k h := by
  by_cases e : k < n
  · exact .inl ⟨e, by omega, by omega⟩
  · obtain ⟨d, hd, ht⟩ := far (nx h)
    refine .inr ⟨by omega, ?_, d, ht, by omega⟩
    rcases cyc_start h with hc | ⟨p, hp, hc⟩
    · exact .inl hc
    · exact .inr ⟨p, by omega, hc⟩
theorem Cyc.more {G G' : Nat} {h : Int} (hc : Cyc G h) (hG : G ≤ G') : Cyc G' h := by
  rcases hc with hc | ⟨p, hp, hc⟩
  · exact .inl hc
  · exact .inr ⟨p, by omega, hc⟩
/-- a round: the head draws a multiple of three, then one or three draws more -/
theorem At.round {G len n : Nat} {k h : Int} (a : At G len n k h) {x k1 : Int} (hk1 : k < n → k1 = k + 1) (hx : k = n → k1 = k ∧ x = top (nx h) % 3) (hx0 : x = 0)
    {len' : Nat} {k' h' : Int} (hk' : k1 ≤ k') (hk'' : k' ≤ n) (hh : (h' = it 4 h ∧ len' ≤ len + 1) ∨ (h' = it 2 h ∧ len' ≤ 1)) : ∃ G', G' < G ∧ At G' len' n k' h' := by
  rcases a with ⟨h1, h2, h3⟩ | ⟨h1, hc, d, hd, hl⟩
  · have e1 := hk1 h1
    obtain ⟨G0, rfl⟩ : ∃ G0, G = G0 + 1 := ⟨G - 1, by omega⟩
    refine ⟨G0, by omega, ?_⟩
    have hlen : len' ≤ len + 1 := by rcases hh with ⟨_, e⟩ | ⟨_, e⟩ <;> omega
    by_cases e : k' < n
    · exact .inl ⟨e, by omega, by omega⟩
    · obtain ⟨d, hd, ht⟩ := far (nx h')
      exact .inr ⟨by omega, (cyc_start h').more (by omega), d, ht, by omega⟩
  · obtain ⟨e1, e2⟩ := hx h1
    have hb : top (nx h) % 3 = 0 := by rw [← e2]; exact hx0
    have hG : ∃ G0, G = G0 + 1 := by
      cases G with
      | succ G0 => exact ⟨G0, rfl⟩
      | zero =>
        exfalso
        rcases hc with hc | ⟨p, hp, _⟩
        · rw [nx_same hc] at hb; exact (tg_good h).2 hb
        · omega
    obtain ⟨G0, rfl⟩ := hG
    obtain ⟨c2, c4⟩ := cyc_next hc hb
    refine ⟨G0, by omega, .inr ⟨by omega, ?_, ?_⟩⟩
    · rcases hh with ⟨e, _⟩ | ⟨e, _⟩ <;> rw [e]
      · exact c4
      · exact c2
    · rcases hh with ⟨e, el⟩ | ⟨e, el⟩
      · cases d with
        | zero => exact absurd hb hd
        | succ d =>
          refine ⟨d, ?_, by omega⟩
          rw [show 4 * (d + 1) = 4 + 4 * d from by omega, it_add] at hd
          rw [e]
          exact hd
      · obtain ⟨d, hd, ht⟩ := far (nx h')
        exact ⟨d, ht, by omega⟩
end Lcg
