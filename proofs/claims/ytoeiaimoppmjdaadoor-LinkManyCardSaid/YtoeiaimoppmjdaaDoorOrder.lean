/- Plain: the register's step has order 2^32 - 1 at 1: two powers of it that differ by less than 2^24 differ at 1. -/
import Derived.Test.YtoeiaimoppmjdaaDoorCrc
namespace Go.Proofs.YtoeiaimoppmjdaaDoor.Crc
set_option linter.unusedVariables false
set_option linter.unusedSimpArgs false
/-- A linear map, by its columns. -/
def app : List Nat → Nat → Nat
  | [], _ => 0
  | c :: cs, v => Nat.xor ((v % 2) * c) (app cs (v / 2))
theorem app_xor (M : List Nat) (u v : Nat) : app M (u ^^^ v) = app M u ^^^ app M v := by
  induction M generalizing u v with
  | nil => simp [app]
  | cons c cs ih =>
    simp only [app]
    rw [Nat.xor_div_two, ih]
    show ((u ^^^ v) % 2 * c) ^^^ (app cs (u / 2) ^^^ app cs (v / 2)) = (u % 2 * c ^^^ app cs (u / 2)) ^^^ (v % 2 * c ^^^ app cs (v / 2))
    have hm : (u ^^^ v) % 2 * c = (u % 2 * c) ^^^ (v % 2 * c) := by
      have hx : (u ^^^ v) % 2 = (u % 2) ^^^ (v % 2) := Nat.xor_mod_two_pow (n := 1)
      rw [hx]
      rcases Nat.mod_two_eq_zero_or_one u with h1 | h1 <;> rcases Nat.mod_two_eq_zero_or_one v with h2 | h2 <;> simp [h1, h2]
    rw [hm]
    generalize u % 2 * c = a
    generalize v % 2 * c = b
    generalize app cs (u / 2) = x
    generalize app cs (v / 2) = y
    ac_rfl
theorem app_zero (M : List Nat) : app M 0 = 0 := by
  induction M with
  | nil => rfl
  | cons c cs ih => simp only [app]; rw [show 0 / 2 = 0 from rfl, ih]; simp [Nat.xor_eq]
theorem app_bit (M : List Nat) (v c : Nat) : app M (v % 2 * c) = v % 2 * app M c := by
  rcases Nat.mod_two_eq_zero_or_one v with h | h
  · rw [h, Nat.zero_mul, Nat.zero_mul, app_zero]
  · rw [h, Nat.one_mul, Nat.one_mul]
/-- One map behind the other. -/
theorem app_map (N : List Nat) (M : List Nat) (v : Nat) : app (M.map (app N)) v = app N (app M v) := by
  induction M generalizing v with
  | nil => simp [app, app_zero]
  | cons c cs ih =>
    simp only [List.map_cons, app]
    rw [ih]
    show v % 2 * app N c ^^^ app N (app cs (v / 2)) = app N (v % 2 * c ^^^ app cs (v / 2))
    rw [app_xor, app_bit]
def pows : Nat → Nat → List Nat
  | _, 0 => []
  | k, n + 1 => 2 ^ k :: pows (k + 1) n
theorem low_bit (u : Nat) : u % 2 ^^^ 2 * (u / 2) = u := by
  apply Nat.eq_of_testBit_eq
  intro i
  rw [Nat.testBit_xor]
  cases i with
  | zero => simp [Nat.testBit_zero]
  | succ i =>
    rw [Nat.testBit_succ, Nat.testBit_succ, Nat.testBit_succ]
    rw [show u % 2 / 2 = 0 by omega, show 2 * (u / 2) / 2 = u / 2 by omega]
    simp
theorem app_pows (k n u : Nat) (h : u < 2 ^ n) : app (pows k n) u = u * 2 ^ k := by
  induction n generalizing k u with
  | zero => obtain rfl : u = 0 := by simpa using h
            simp [pows, app]
  | succ n ih =>
    simp only [pows, app]
    rw [ih (k + 1) (u / 2) (by rw [Nat.pow_succ] at h; omega)]
    show u % 2 * 2 ^ k ^^^ u / 2 * 2 ^ (k + 1) = u * 2 ^ k
    conv => rhs; rw [← low_bit u]
    rw [← Nat.shiftLeft_eq, ← Nat.shiftLeft_eq (u % 2 ^^^ 2 * (u / 2)), Nat.shiftLeft_xor_distrib, Nat.shiftLeft_eq (2 * (u / 2))]
    congr 1
    rw [Nat.pow_succ, Nat.mul_comm 2 (u / 2), Nat.mul_assoc, Nat.mul_comm 2 (2 ^ k)]
/-- The columns stand for a map of registers. -/
abbrev Rep (M : List Nat) (k : Nat) : Prop := ∀ s : B, app M s.toNat = (it k s).toNat
theorem rep_twice {M M' : List Nat} {k : Nat} (h : Rep M k) (he : M.map (app M) = M') : Rep M' (k + k) := by
  intro s
  rw [← he, app_map, h s, h (it k s), ← it_add]
theorem st_nat (s : B) : (st s).toNat = (s.toNat % 2 * 3988292384) ^^^ (s.toNat / 2) := by
  unfold st
  rw [BitVec.toNat_xor, BitVec.toNat_ushiftRight, Nat.shiftRight_eq_div_pow, Nat.pow_one, Nat.xor_comm]
  congr 1
  rw [BitVec.getLsbD, Nat.testBit_zero]
  rcases Nat.mod_two_eq_zero_or_one s.toNat with h | h <;> simp [h, poly]
def m0 : List Nat := 3988292384 :: pows 0 31
theorem rep0 : Rep m0 1 := by
  intro s
  show app m0 s.toNat = (st s).toNat
  rw [st_nat]
  unfold m0
  simp only [app]
  rw [app_pows 0 31 _ (by have := s.isLt; omega), Nat.pow_zero, Nat.mul_one]
  rfl
set_option maxRecDepth 100000
def m1 : List Nat := [1994146192, 3988292384, 1, 2, 4, 8, 16, 32, 64, 128, 256, 512, 1024, 2048, 4096, 8192, 16384, 32768, 65536, 131072, 262144, 524288, 1048576, 2097152, 4194304, 8388608, 16777216, 33554432, 67108864, 134217728, 268435456, 536870912]
theorem rep1 : Rep m1 2 := rep_twice rep0 (by decide +kernel)
def m2 : List Nat := [498536548, 997073096, 1994146192, 3988292384, 1, 2, 4, 8, 16, 32, 64, 128, 256, 512, 1024, 2048, 4096, 8192, 16384, 32768, 65536, 131072, 262144, 524288, 1048576, 2097152, 4194304, 8388608, 16777216, 33554432, 67108864, 134217728]
theorem rep2 : Rep m2 4 := rep_twice rep1 (by decide +kernel)
def m3 : List Nat := [1996959894, 3993919788, 124634137, 249268274, 498536548, 997073096, 1994146192, 3988292384, 1, 2, 4, 8, 16, 32, 64, 128, 256, 512, 1024, 2048, 4096, 8192, 16384, 32768, 65536, 131072, 262144, 524288, 1048576, 2097152, 4194304, 8388608]
theorem rep3 : Rep m3 8 := rep_twice rep2 (by decide +kernel)
def m4 : List Nat := [421212481, 842424962, 1684849924, 3369699848, 1254232657, 2508465314, 4034481925, 998479947, 1996959894, 3993919788, 124634137, 249268274, 498536548, 997073096, 1994146192, 3988292384, 1, 2, 4, 8, 16, 32, 64, 128, 256, 512, 1024, 2048, 4096, 8192, 16384, 32768]
theorem rep4 : Rep m4 16 := rep_twice rep3 (by decide +kernel)
def m5 : List Nat := [3099354981, 2852767883, 2405603159, 3316918511, 1343838111, 2687676222, 2601801789, 3982079547, 29518391, 59036782, 118073564, 236147128, 472294256, 944588512, 1889177024, 3778354048, 421212481, 842424962, 1684849924, 3369699848, 1254232657, 2508465314, 4034481925, 998479947, 1996959894, 3993919788, 124634137, 249268274, 498536548, 997073096, 1994146192, 3988292384]
theorem rep5 : Rep m5 32 := rep_twice rep4 (by decide +kernel)
def m6 : List Nat := [3433693342, 1109723005, 2219446010, 3555007413, 2092642603, 4185285206, 698204909, 1396409818, 2792819636, 2543784233, 4098827283, 871321191, 1742642382, 3485284764, 1141601657, 2283203314, 3411858341, 1304994059, 2609988118, 3964895853, 64357019, 128714038, 257428076, 514856152, 1029712304, 2059424608, 4118849216, 812665793, 1625331586, 3250663172, 1492342857, 2984685714]
theorem rep6 : Rep m6 64 := rep_twice rep5 (by decide +kernel)
def m7 : List Nat := [2926088593, 2275419491, 3560000647, 1930665807, 3861331614, 390036349, 780072698, 1560145396, 3120290792, 2827399569, 2323408227, 3481914503, 1147313999, 2294627998, 3405478781, 1317531835, 2635063670, 3782132909, 430739227, 861478454, 1722956908, 3445913816, 1102706673, 2205413346, 3717650821, 1616688459, 3233376918, 1510200173, 3020400346, 3011398645, 3180171691, 2691310871]
theorem rep7 : Rep m7 128 := rep_twice rep6 (by decide +kernel)
def m8 : List Nat := [4057597354, 952438037, 1904876074, 3809752148, 492400361, 984800722, 1969601444, 3939202888, 250079441, 500158882, 1000317764, 2000635528, 4001271056, 126622817, 253245634, 506491268, 1012982536, 2025965072, 4051930144, 947265025, 1894530050, 3789060100, 415364681, 830729362, 1661458724, 3322917448, 1466852049, 2933704098, 2261290245, 3605011531, 1991327447, 3982654894]
theorem rep8 : Rep m8 256 := rep_twice rep7 (by decide +kernel)
def m9 : List Nat := [2402626965, 3306904939, 1363655831, 2727311662, 2658137117, 3887001211, 338483895, 676967790, 1353935580, 2707871160, 2579279153, 3892861987, 190955015, 381910030, 763820060, 1527640120, 3055280240, 3074868897, 3053226755, 2961707079, 3126929103, 2947763167, 2216137215, 3546162623, 2110606655, 4221213310, 742666941, 1485333882, 2970667764, 3109065641, 2848989459, 2295415911]
theorem rep9 : Rep m9 512 := rep_twice rep8 (by decide +kernel)
def m10 : List Nat := [872412467, 1744824934, 3489649868, 1150201817, 2300403634, 3377183013, 1239839755, 2479679510, 4243117677, 580954779, 1161909558, 2323819116, 3463729817, 1201251187, 2402502374, 3306654605, 1365119323, 2730238646, 2651407149, 3882057755, 364250743, 728501486, 1457002972, 2914005944, 2148622641, 3679700003, 1842777607, 3685555214, 1814773341, 3629546682, 1809710901, 3619421802]
theorem rep10 : Rep m10 1024 := rep_twice rep9 (by decide +kernel)
def m11 : List Nat := [3459477963, 1192748503, 2385497006, 3341717789, 1428956283, 2857912566, 2411829165, 3304204571, 1385518199, 2771036398, 2435078045, 4181305723, 688018615, 1376037230, 2752074460, 2472780793, 4256580019, 538805543, 1077611086, 2155222172, 3684511609, 1816877235, 3633754470, 1784439949, 3568879898, 1912640629, 3825281258, 326326165, 652652330, 1305304660, 2610609320, 3963911953]
theorem rep11 : Rep m11 2048 := rep_twice rep10 (by decide +kernel)
def m12 : List Nat := [275962664, 551925328, 1103850656, 2207701312, 3697063105, 1674080195, 3348160390, 1414576461, 2829152922, 2318656373, 3474374827, 1163691799, 2327383598, 3456309789, 1198994043, 2397988086, 3333279661, 1445632283, 2891264566, 2212192813, 3704078875, 1660846711, 3321693422, 1351290781, 2702581562, 2573023285, 3922425387, 149416471, 298832942, 597665884, 1195331768, 2390663536]
theorem rep12 : Rep m12 4096 := rep_twice rep11 (by decide +kernel)
def m13 : List Nat := [4170314095, 710075551, 1420151102, 2840302204, 2313560761, 3367846707, 1242267687, 2484535374, 4083091165, 1036979195, 2073958390, 4147916780, 889805209, 1779610418, 3559220836, 1933298313, 3866596626, 396242021, 792484042, 1584968084, 3169936168, 2727591953, 2656470627, 3889957511, 348721999, 697443998, 1394887996, 2789775992, 2548052657, 4105265955, 840155143, 1680310286]
theorem rep13 : Rep m13 8192 := rep_twice rep12 (by decide +kernel)
def m14 : List Nat := [2293676643, 3390861959, 1330242383, 2660484766, 3864431485, 400298171, 800596342, 1601192684, 3202385368, 2796555761, 2517704099, 4149427463, 903314511, 1806629022, 3613258044, 1976230969, 3952461938, 207263397, 414526794, 829053588, 1658107176, 3316214352, 1344525025, 2689050050, 2617134533, 3968703947, 40517079, 81034158, 162068316, 324136632, 648273264, 1296546528]
theorem rep14 : Rep m14 16384 := rep_twice rep13 (by decide +kernel)
def m15 : List Nat := [1524148524, 3048297048, 2954076913, 3142992803, 2916974855, 2160723023, 3672444639, 1857756159, 3715512318, 1637706173, 3275412346, 1560584373, 3121168746, 2942534805, 2243301227, 3491567767, 2068526959, 4137053918, 912120829, 1824241658, 3648483316, 1772083625, 3544167250, 2098094309, 4196188618, 793282005, 1586564010, 3173128020, 2704615657, 2568705939, 3913787751, 167662735]
theorem rep15 : Rep m15 32768 := rep_twice rep14 (by decide +kernel)
def m16 : List Nat := [3043423970, 2981948293, 3087585611, 2875237591, 2377142255, 3222378911, 1532114303, 3064228606, 3057243069, 3070402875, 3044295735, 2979630639, 3091339807, 2884973183, 2358993599, 3259482943, 1610514495, 3221028990, 2760574653, 2456226619, 4290711607, 604972591, 1209945182, 2419890364, 4211619641, 761358387, 1522716774, 3045433548, 2960803801, 3146090995, 2893682087, 2206543119]
theorem rep16 : Rep m16 65536 := rep_twice rep15 (by decide +kernel)
def m17 : List Nat := [2643536319, 3763557695, 467119167, 934238334, 1868476668, 3736953336, 1712047537, 3424095074, 1130238085, 2260476170, 3590931541, 2003013355, 4006026710, 117390829, 234781658, 469563316, 939126632, 1878253264, 3756506528, 1690205441, 3380410882, 1233711685, 2467423370, 4250062677, 567580907, 1135161814, 2270323628, 3587555609, 1893368947, 3786737894, 404428685, 808857370]
theorem rep17 : Rep m17 131072 := rep_twice rep16 (by decide +kernel)
def m18 : List Nat := [786709036, 1573418072, 3146836144, 2890979105, 2211489795, 3704641095, 1657907919, 3315815838, 1345826173, 2691652346, 2611983285, 3962462507, 53330967, 106661934, 213323868, 426647736, 853295472, 1706590944, 3413181888, 1301482945, 2602965890, 3980210501, 17523915, 35047830, 70095660, 140191320, 280382640, 560765280, 1121530560, 2243061120, 3491089729, 2069535939]
theorem rep18 : Rep m18 262144 := rep_twice rep17 (by decide +kernel)
def m19 : List Nat := [457511406, 915022812, 1830045624, 3660091248, 1864374433, 3728748866, 1743873221, 3487746442, 1152685397, 2305370794, 3382924053, 1211605099, 2423210198, 4222584813, 741214619, 1482429238, 2964858476, 3120646809, 2943587187, 2241208487, 3495773967, 2076936287, 4153872574, 878651197, 1757302394, 3514604788, 2038972329, 4077944658, 1028782309, 2057564618, 4115129236, 838779241]
theorem rep19 : Rep m19 524288 := rep_twice rep18 (by decide +kernel)
def m20 : List Nat := [3168883202, 2729681477, 2652259019, 3881665495, 365560303, 731120606, 1462241212, 2924482424, 2278627505, 3570612003, 1926719495, 3853438990, 271361629, 542723258, 1085446516, 2170893032, 3652936593, 1745338723, 3490677446, 2070807501, 4141615002, 919144821, 1838289642, 3676579284, 1832472041, 3664944082, 1871983077, 3743966154, 1696711125, 3393422250, 1341522197, 2683044394]
theorem rep20 : Rep m20 1048576 := rep_twice rep19 (by decide +kernel)
def m21 : List Nat := [4278773231, 627101087, 1254202174, 2508404348, 4034357945, 1000330035, 2000660070, 4001320140, 126853081, 253706162, 507412324, 1014824648, 2029649296, 4059298592, 949415937, 1898831874, 3797663748, 533104201, 1066208402, 2132416804, 4264833608, 655975121, 1311950242, 2623900484, 3820622025, 470099923, 940199846, 1880399692, 3760799384, 455310193, 910620386, 1821240772]
theorem rep21 : Rep m21 2097152 := rep_twice rep20 (by decide +kernel)
def m22 : List Nat := [1870010158, 3740020316, 1722374905, 3444749810, 1104440741, 2208881482, 3693129941, 1664116715, 3328233430, 1471191533, 2942383066, 2243125749, 3491218859, 2069794071, 4139588142, 906703389, 1813406778, 3626813556, 1797822121, 3595644242, 2010340581, 4020681162, 71071189, 142142378, 284284756, 568569512, 1137139024, 2274278048, 3563877121, 1940512835, 3881025670, 366380877]
theorem rep22 : Rep m22 4194304 := rep_twice rep21 (by decide +kernel)
def m23 : List Nat := [1458948793, 2917897586, 2158374053, 3661455115, 1863039063, 3726078126, 1734338333, 3468676666, 1175362101, 2350724202, 3276500629, 1575476075, 3150952150, 2901306349, 2192429467, 3727336823, 1730432175, 3460864350, 1205875965, 2411751930, 3304183221, 1385344299, 2770688598, 2436608749, 4177945499, 696107383, 1392214766, 2784429532, 2426342905, 4199488947, 804207911, 1608415822]
theorem rep23 : Rep m23 8388608 := rep_twice rep22 (by decide +kernel)
def m24 : List Nat := [945394604, 1890789208, 3781578416, 431856417, 863712834, 1727425668, 3454851336, 1084798033, 2169596066, 3654539013, 1758898251, 3517796502, 2016126829, 4032253658, 1004510197, 2009020394, 4018040788, 93182441, 186364882, 372729764, 745459528, 1490919056, 2981838112, 3087498241, 2877292099, 2374957767, 3228365775, 1537794527, 3075589054, 3050471741, 2966684731, 3134787127]
theorem rep24 : Rep m24 16777216 := rep_twice rep23 (by decide +kernel)
def m25 : List Nat := [3022289696, 3006918657, 3171083843, 2708785863, 2576913359, 3896517087, 200361471, 400722942, 801445884, 1602891768, 3205783536, 2774120865, 2445440259, 4176866375, 714792655, 1429585310, 2859170620, 2410147897, 3292456499, 1393347111, 2786694222, 2537696989, 4126497787, 815509943, 1631019886, 3262039772, 1605143545, 3210287090, 2781030821, 2432128267, 4204768343, 776888047]
theorem rep25 : Rep m25 33554432 := rep_twice rep24 (by decide +kernel)
def m26 : List Nat := [1766950567, 3533901134, 2117541085, 4235082170, 598570293, 1197140586, 2394281172, 3323637737, 1464097171, 2928194342, 2254462989, 3618752091, 1947372279, 3894744558, 188427677, 376855354, 753710708, 1507421416, 3014842832, 3155473889, 2740481411, 2646728007, 3774004431, 445939679, 891879358, 1783758716, 3567517432, 1916206001, 3832412002, 329967749, 659935498, 1319870996]
theorem rep26 : Rep m26 67108864 := rep_twice rep25 (by decide +kernel)
def m27 : List Nat := [1723596830, 3447193660, 1098974777, 2197949554, 3715440293, 1637563147, 3275126294, 1562241645, 3124483290, 2936451061, 2239519147, 3515462935, 2019716207, 4039432414, 989378557, 1978757114, 3957514228, 213170601, 426341202, 852682404, 1705364808, 3410729616, 1306932065, 2613864130, 3974745029, 44208587, 88417174, 176834348, 353668696, 707337392, 1414674784, 2829349568]
theorem rep27 : Rep m27 134217728 := rep_twice rep26 (by decide +kernel)
def m28 : List Nat := [3045795763, 2959558951, 3149894671, 2886610527, 2204982015, 3719017407, 1613127999, 3226255998, 1541964477, 3083928954, 3033730229, 3000442667, 3202299927, 2798614127, 2532305567, 4138652543, 908894399, 1817788798, 3635577596, 1779696569, 3559393138, 1931544741, 3863089482, 401941717, 803883434, 1607766868, 3215533736, 2753776401, 2469892195, 4246611591, 558713679, 1117427358]
theorem rep28 : Rep m28 268435456 := rep_twice rep27 (by decide +kernel)
def m29 : List Nat := [4263981410, 658465925, 1316931850, 2633863700, 3800703593, 509952659, 1019905318, 2039810636, 4079621272, 1025847153, 2051694306, 4103388612, 844660169, 1689320338, 3378640676, 1236461577, 2472923154, 4256867941, 537152139, 1074304278, 2148608556, 3679670809, 1842848371, 3685696742, 1815056269, 3630112538, 1808742517, 3617485034, 1951262613, 3902525226, 172398613, 344797226]
theorem rep29 : Rep m29 536870912 := rep_twice rep28 (by decide +kernel)
def m30 : List Nat := [3553200147, 2095191655, 4190383310, 687431645, 1374863290, 2749726580, 2629564585, 3792107283, 528279655, 1056559310, 2113118620, 4226237240, 750747697, 1501495394, 3002990788, 3196913609, 2792032723, 2544309735, 4097781135, 856644959, 1713289918, 3426579836, 1124854969, 2249709938, 3613308069, 1976332043, 3952664086, 205568621, 411137242, 822274484, 1644548968, 3289097936]
theorem rep30 : Rep m30 1073741824 := rep_twice rep29 (by decide +kernel)
def m31 : List Nat := [4158054068, 886881065, 1773762130, 3547524260, 2106908425, 4213816850, 757234277, 1514468554, 3028937108, 2992821609, 3216288915, 2753060711, 2470557839, 4260525919, 546695423, 1093390846, 2186781692, 3755884985, 1691190579, 3382381158, 1212617357, 2425234714, 4201466997, 799776427, 1599552854, 3199105708, 2788029209, 2536169587, 4112828071, 825789199, 1651578398, 3303156796]
theorem rep31 : Rep m31 2147483648 := rep_twice rep30 (by decide +kernel)
theorem all_0 : (it 1 1#32).toNat = 3988292384 := by rw [← rep0]; decide +kernel
theorem all_1 : (it 3 1#32).toNat = 997073096 := by rw [show 3 = 2 + 1 from rfl, it_add, ← rep1, all_0]; decide +kernel
theorem all_2 : (it 7 1#32).toNat = 3993919788 := by rw [show 7 = 4 + 3 from rfl, it_add, ← rep2, all_1]; decide +kernel
theorem all_3 : (it 15 1#32).toNat = 842424962 := by rw [show 15 = 8 + 7 from rfl, it_add, ← rep3, all_2]; decide +kernel
theorem all_4 : (it 31 1#32).toNat = 2852767883 := by rw [show 31 = 16 + 15 from rfl, it_add, ← rep4, all_3]; decide +kernel
theorem all_5 : (it 63 1#32).toNat = 1109723005 := by rw [show 63 = 32 + 31 from rfl, it_add, ← rep5, all_4]; decide +kernel
theorem all_6 : (it 127 1#32).toNat = 2275419491 := by rw [show 127 = 64 + 63 from rfl, it_add, ← rep6, all_5]; decide +kernel
theorem all_7 : (it 255 1#32).toNat = 952438037 := by rw [show 255 = 128 + 127 from rfl, it_add, ← rep7, all_6]; decide +kernel
theorem all_8 : (it 511 1#32).toNat = 3306904939 := by rw [show 511 = 256 + 255 from rfl, it_add, ← rep8, all_7]; decide +kernel
theorem all_9 : (it 1023 1#32).toNat = 1744824934 := by rw [show 1023 = 512 + 511 from rfl, it_add, ← rep9, all_8]; decide +kernel
theorem all_10 : (it 2047 1#32).toNat = 1192748503 := by rw [show 2047 = 1024 + 1023 from rfl, it_add, ← rep10, all_9]; decide +kernel
theorem all_11 : (it 4095 1#32).toNat = 551925328 := by rw [show 4095 = 2048 + 2047 from rfl, it_add, ← rep11, all_10]; decide +kernel
theorem all_12 : (it 8191 1#32).toNat = 710075551 := by rw [show 8191 = 4096 + 4095 from rfl, it_add, ← rep12, all_11]; decide +kernel
theorem all_13 : (it 16383 1#32).toNat = 3390861959 := by rw [show 16383 = 8192 + 8191 from rfl, it_add, ← rep13, all_12]; decide +kernel
theorem all_14 : (it 32767 1#32).toNat = 3048297048 := by rw [show 32767 = 16384 + 16383 from rfl, it_add, ← rep14, all_13]; decide +kernel
theorem all_15 : (it 65535 1#32).toNat = 2981948293 := by rw [show 65535 = 32768 + 32767 from rfl, it_add, ← rep15, all_14]; decide +kernel
theorem all_16 : (it 131071 1#32).toNat = 3763557695 := by rw [show 131071 = 65536 + 65535 from rfl, it_add, ← rep16, all_15]; decide +kernel
theorem all_17 : (it 262143 1#32).toNat = 1573418072 := by rw [show 262143 = 131072 + 131071 from rfl, it_add, ← rep17, all_16]; decide +kernel
theorem all_18 : (it 524287 1#32).toNat = 915022812 := by rw [show 524287 = 262144 + 262143 from rfl, it_add, ← rep18, all_17]; decide +kernel
theorem all_19 : (it 1048575 1#32).toNat = 2729681477 := by rw [show 1048575 = 524288 + 524287 from rfl, it_add, ← rep19, all_18]; decide +kernel
theorem all_20 : (it 2097151 1#32).toNat = 627101087 := by rw [show 2097151 = 1048576 + 1048575 from rfl, it_add, ← rep20, all_19]; decide +kernel
theorem all_21 : (it 4194303 1#32).toNat = 3740020316 := by rw [show 4194303 = 2097152 + 2097151 from rfl, it_add, ← rep21, all_20]; decide +kernel
theorem all_22 : (it 8388607 1#32).toNat = 2917897586 := by rw [show 8388607 = 4194304 + 4194303 from rfl, it_add, ← rep22, all_21]; decide +kernel
theorem all_23 : (it 16777215 1#32).toNat = 1890789208 := by rw [show 16777215 = 8388608 + 8388607 from rfl, it_add, ← rep23, all_22]; decide +kernel
theorem all_24 : (it 33554431 1#32).toNat = 3006918657 := by rw [show 33554431 = 16777216 + 16777215 from rfl, it_add, ← rep24, all_23]; decide +kernel
theorem all_25 : (it 67108863 1#32).toNat = 3533901134 := by rw [show 67108863 = 33554432 + 33554431 from rfl, it_add, ← rep25, all_24]; decide +kernel
theorem all_26 : (it 134217727 1#32).toNat = 3447193660 := by rw [show 134217727 = 67108864 + 67108863 from rfl, it_add, ← rep26, all_25]; decide +kernel
theorem all_27 : (it 268435455 1#32).toNat = 2959558951 := by rw [show 268435455 = 134217728 + 134217727 from rfl, it_add, ← rep27, all_26]; decide +kernel
theorem all_28 : (it 536870911 1#32).toNat = 658465925 := by rw [show 536870911 = 268435456 + 268435455 from rfl, it_add, ← rep28, all_27]; decide +kernel
theorem all_29 : (it 1073741823 1#32).toNat = 2095191655 := by rw [show 1073741823 = 536870912 + 536870911 from rfl, it_add, ← rep29, all_28]; decide +kernel
theorem all_30 : (it 2147483647 1#32).toNat = 886881065 := by rw [show 2147483647 = 1073741824 + 1073741823 from rfl, it_add, ← rep30, all_29]; decide +kernel
theorem all_31 : (it 4294967295 1#32).toNat = 1 := by rw [show 4294967295 = 2147483648 + 2147483647 from rfl, it_add, ← rep31, all_30]; decide +kernel
theorem all : it 4294967295 1#32 = 1#32 := BitVec.eq_of_toNat_eq (all_31.trans rfl)
theorem d3_0 : (it 1 1#32).toNat = 3988292384 := by rw [← rep0]; decide +kernel
theorem d3_1 : (it 5 1#32).toNat = 249268274 := by rw [show 5 = 4 + 1 from rfl, it_add, ← rep2, d3_0]; decide +kernel
theorem d3_2 : (it 21 1#32).toNat = 236147128 := by rw [show 21 = 16 + 5 from rfl, it_add, ← rep4, d3_1]; decide +kernel
theorem d3_3 : (it 85 1#32).toNat = 3133399365 := by rw [show 85 = 64 + 21 from rfl, it_add, ← rep6, d3_2]; decide +kernel
theorem d3_4 : (it 341 1#32).toNat = 1426898203 := by rw [show 341 = 256 + 85 from rfl, it_add, ← rep8, d3_3]; decide +kernel
theorem d3_5 : (it 1365 1#32).toNat = 1964593414 := by rw [show 1365 = 1024 + 341 from rfl, it_add, ← rep10, d3_4]; decide +kernel
theorem d3_6 : (it 5461 1#32).toNat = 2688728703 := by rw [show 5461 = 4096 + 1365 from rfl, it_add, ← rep12, d3_5]; decide +kernel
theorem d3_7 : (it 21845 1#32).toNat = 2741766692 := by rw [show 21845 = 16384 + 5461 from rfl, it_add, ← rep14, d3_6]; decide +kernel
theorem d3_8 : (it 87381 1#32).toNat = 3390503873 := by rw [show 87381 = 65536 + 21845 from rfl, it_add, ← rep16, d3_7]; decide +kernel
theorem d3_9 : (it 349525 1#32).toNat = 853040404 := by rw [show 349525 = 262144 + 87381 from rfl, it_add, ← rep18, d3_8]; decide +kernel
theorem d3_10 : (it 1398101 1#32).toNat = 2248029809 := by rw [show 1398101 = 1048576 + 349525 from rfl, it_add, ← rep20, d3_9]; decide +kernel
theorem d3_11 : (it 5592405 1#32).toNat = 2503407113 := by rw [show 5592405 = 4194304 + 1398101 from rfl, it_add, ← rep22, d3_10]; decide +kernel
theorem d3_12 : (it 22369621 1#32).toNat = 1212402061 := by rw [show 22369621 = 16777216 + 5592405 from rfl, it_add, ← rep24, d3_11]; decide +kernel
theorem d3_13 : (it 89478485 1#32).toNat = 1880009134 := by rw [show 89478485 = 67108864 + 22369621 from rfl, it_add, ← rep26, d3_12]; decide +kernel
theorem d3_14 : (it 357913941 1#32).toNat = 2465499040 := by rw [show 357913941 = 268435456 + 89478485 from rfl, it_add, ← rep28, d3_13]; decide +kernel
theorem d3_15 : (it 1431655765 1#32).toNat = 2438888476 := by rw [show 1431655765 = 1073741824 + 357913941 from rfl, it_add, ← rep30, d3_14]; decide +kernel
theorem d3 : it 1431655765 1#32 ≠ 1#32 := fun h => absurd ((d3_15).symm.trans (congrArg BitVec.toNat h)) (by decide)
theorem d5_0 : (it 1 1#32).toNat = 3988292384 := by rw [← rep0]; decide +kernel
theorem d5_1 : (it 3 1#32).toNat = 997073096 := by rw [show 3 = 2 + 1 from rfl, it_add, ← rep1, d5_0]; decide +kernel
theorem d5_2 : (it 19 1#32).toNat = 944588512 := by rw [show 19 = 16 + 3 from rfl, it_add, ← rep4, d5_1]; decide +kernel
theorem d5_3 : (it 51 1#32).toNat = 3485284764 := by rw [show 51 = 32 + 19 from rfl, it_add, ← rep5, d5_2]; decide +kernel
theorem d5_4 : (it 307 1#32).toNat = 1735220780 := by rw [show 307 = 256 + 51 from rfl, it_add, ← rep8, d5_3]; decide +kernel
theorem d5_5 : (it 819 1#32).toNat = 3221995297 := by rw [show 819 = 512 + 307 from rfl, it_add, ← rep9, d5_4]; decide +kernel
theorem d5_6 : (it 4915 1#32).toNat = 3408647982 := by rw [show 4915 = 4096 + 819 from rfl, it_add, ← rep12, d5_5]; decide +kernel
theorem d5_7 : (it 13107 1#32).toNat = 4164760600 := by rw [show 13107 = 8192 + 4915 from rfl, it_add, ← rep13, d5_6]; decide +kernel
theorem d5_8 : (it 78643 1#32).toNat = 2738121344 := by rw [show 78643 = 65536 + 13107 from rfl, it_add, ← rep16, d5_7]; decide +kernel
theorem d5_9 : (it 209715 1#32).toNat = 3659815314 := by rw [show 209715 = 131072 + 78643 from rfl, it_add, ← rep17, d5_8]; decide +kernel
theorem d5_10 : (it 1258291 1#32).toNat = 2104486405 := by rw [show 1258291 = 1048576 + 209715 from rfl, it_add, ← rep20, d5_9]; decide +kernel
theorem d5_11 : (it 3355443 1#32).toNat = 2351682344 := by rw [show 3355443 = 2097152 + 1258291 from rfl, it_add, ← rep21, d5_10]; decide +kernel
theorem d5_12 : (it 20132659 1#32).toNat = 2525368414 := by rw [show 20132659 = 16777216 + 3355443 from rfl, it_add, ← rep24, d5_11]; decide +kernel
theorem d5_13 : (it 53687091 1#32).toNat = 3249136228 := by rw [show 53687091 = 33554432 + 20132659 from rfl, it_add, ← rep25, d5_12]; decide +kernel
theorem d5_14 : (it 322122547 1#32).toNat = 62658423 := by rw [show 322122547 = 268435456 + 53687091 from rfl, it_add, ← rep28, d5_13]; decide +kernel
theorem d5_15 : (it 858993459 1#32).toNat = 2244940330 := by rw [show 858993459 = 536870912 + 322122547 from rfl, it_add, ← rep29, d5_14]; decide +kernel
theorem d5 : it 858993459 1#32 ≠ 1#32 := fun h => absurd ((d5_15).symm.trans (congrArg BitVec.toNat h)) (by decide)
theorem d17_0 : (it 1 1#32).toNat = 3988292384 := by rw [← rep0]; decide +kernel
theorem d17_1 : (it 3 1#32).toNat = 997073096 := by rw [show 3 = 2 + 1 from rfl, it_add, ← rep1, d17_0]; decide +kernel
theorem d17_2 : (it 7 1#32).toNat = 3993919788 := by rw [show 7 = 4 + 3 from rfl, it_add, ← rep2, d17_1]; decide +kernel
theorem d17_3 : (it 15 1#32).toNat = 842424962 := by rw [show 15 = 8 + 7 from rfl, it_add, ← rep3, d17_2]; decide +kernel
theorem d17_4 : (it 271 1#32).toNat = 1225040492 := by rw [show 271 = 256 + 15 from rfl, it_add, ← rep8, d17_3]; decide +kernel
theorem d17_5 : (it 783 1#32).toNat = 3582667438 := by rw [show 783 = 512 + 271 from rfl, it_add, ← rep9, d17_4]; decide +kernel
theorem d17_6 : (it 1807 1#32).toNat = 3708367806 := by rw [show 1807 = 1024 + 783 from rfl, it_add, ← rep10, d17_5]; decide +kernel
theorem d17_7 : (it 3855 1#32).toNat = 3055252587 := by rw [show 3855 = 2048 + 1807 from rfl, it_add, ← rep11, d17_6]; decide +kernel
theorem d17_8 : (it 69391 1#32).toNat = 1822677893 := by rw [show 69391 = 65536 + 3855 from rfl, it_add, ← rep16, d17_7]; decide +kernel
theorem d17_9 : (it 200463 1#32).toNat = 1206686024 := by rw [show 200463 = 131072 + 69391 from rfl, it_add, ← rep17, d17_8]; decide +kernel
theorem d17_10 : (it 462607 1#32).toNat = 551720096 := by rw [show 462607 = 262144 + 200463 from rfl, it_add, ← rep18, d17_9]; decide +kernel
theorem d17_11 : (it 986895 1#32).toNat = 1754528946 := by rw [show 986895 = 524288 + 462607 from rfl, it_add, ← rep19, d17_10]; decide +kernel
theorem d17_12 : (it 17764111 1#32).toNat = 952440087 := by rw [show 17764111 = 16777216 + 986895 from rfl, it_add, ← rep24, d17_11]; decide +kernel
theorem d17_13 : (it 51318543 1#32).toNat = 63102909 := by rw [show 51318543 = 33554432 + 17764111 from rfl, it_add, ← rep25, d17_12]; decide +kernel
theorem d17_14 : (it 118427407 1#32).toNat = 1952550143 := by rw [show 118427407 = 67108864 + 51318543 from rfl, it_add, ← rep26, d17_13]; decide +kernel
theorem d17_15 : (it 252645135 1#32).toNat = 1776537313 := by rw [show 252645135 = 134217728 + 118427407 from rfl, it_add, ← rep27, d17_14]; decide +kernel
theorem d17 : it 252645135 1#32 ≠ 1#32 := fun h => absurd ((d17_15).symm.trans (congrArg BitVec.toNat h)) (by decide)
theorem d257_0 : (it 1 1#32).toNat = 3988292384 := by rw [← rep0]; decide +kernel
theorem d257_1 : (it 3 1#32).toNat = 997073096 := by rw [show 3 = 2 + 1 from rfl, it_add, ← rep1, d257_0]; decide +kernel
theorem d257_2 : (it 7 1#32).toNat = 3993919788 := by rw [show 7 = 4 + 3 from rfl, it_add, ← rep2, d257_1]; decide +kernel
theorem d257_3 : (it 15 1#32).toNat = 842424962 := by rw [show 15 = 8 + 7 from rfl, it_add, ← rep3, d257_2]; decide +kernel
theorem d257_4 : (it 31 1#32).toNat = 2852767883 := by rw [show 31 = 16 + 15 from rfl, it_add, ← rep4, d257_3]; decide +kernel
theorem d257_5 : (it 63 1#32).toNat = 1109723005 := by rw [show 63 = 32 + 31 from rfl, it_add, ← rep5, d257_4]; decide +kernel
theorem d257_6 : (it 127 1#32).toNat = 2275419491 := by rw [show 127 = 64 + 63 from rfl, it_add, ← rep6, d257_5]; decide +kernel
theorem d257_7 : (it 255 1#32).toNat = 952438037 := by rw [show 255 = 128 + 127 from rfl, it_add, ← rep7, d257_6]; decide +kernel
theorem d257_8 : (it 65791 1#32).toNat = 2938588517 := by rw [show 65791 = 65536 + 255 from rfl, it_add, ← rep16, d257_7]; decide +kernel
theorem d257_9 : (it 196863 1#32).toNat = 4263956993 := by rw [show 196863 = 131072 + 65791 from rfl, it_add, ← rep17, d257_8]; decide +kernel
theorem d257_10 : (it 459007 1#32).toNat = 2385434378 := by rw [show 459007 = 262144 + 196863 from rfl, it_add, ← rep18, d257_9]; decide +kernel
theorem d257_11 : (it 983295 1#32).toNat = 2381608521 := by rw [show 983295 = 524288 + 459007 from rfl, it_add, ← rep19, d257_10]; decide +kernel
theorem d257_12 : (it 2031871 1#32).toNat = 1049779237 := by rw [show 2031871 = 1048576 + 983295 from rfl, it_add, ← rep20, d257_11]; decide +kernel
theorem d257_13 : (it 4129023 1#32).toNat = 1056812106 := by rw [show 4129023 = 2097152 + 2031871 from rfl, it_add, ← rep21, d257_12]; decide +kernel
theorem d257_14 : (it 8323327 1#32).toNat = 2938681557 := by rw [show 8323327 = 4194304 + 4129023 from rfl, it_add, ← rep22, d257_13]; decide +kernel
theorem d257_15 : (it 16711935 1#32).toNat = 3688911545 := by rw [show 16711935 = 8388608 + 8323327 from rfl, it_add, ← rep23, d257_14]; decide +kernel
theorem d257 : it 16711935 1#32 ≠ 1#32 := fun h => absurd ((d257_15).symm.trans (congrArg BitVec.toNat h)) (by decide)
theorem d65537_0 : (it 1 1#32).toNat = 3988292384 := by rw [← rep0]; decide +kernel
theorem d65537_1 : (it 3 1#32).toNat = 997073096 := by rw [show 3 = 2 + 1 from rfl, it_add, ← rep1, d65537_0]; decide +kernel
theorem d65537_2 : (it 7 1#32).toNat = 3993919788 := by rw [show 7 = 4 + 3 from rfl, it_add, ← rep2, d65537_1]; decide +kernel
theorem d65537_3 : (it 15 1#32).toNat = 842424962 := by rw [show 15 = 8 + 7 from rfl, it_add, ← rep3, d65537_2]; decide +kernel
theorem d65537_4 : (it 31 1#32).toNat = 2852767883 := by rw [show 31 = 16 + 15 from rfl, it_add, ← rep4, d65537_3]; decide +kernel
theorem d65537_5 : (it 63 1#32).toNat = 1109723005 := by rw [show 63 = 32 + 31 from rfl, it_add, ← rep5, d65537_4]; decide +kernel
theorem d65537_6 : (it 127 1#32).toNat = 2275419491 := by rw [show 127 = 64 + 63 from rfl, it_add, ← rep6, d65537_5]; decide +kernel
theorem d65537_7 : (it 255 1#32).toNat = 952438037 := by rw [show 255 = 128 + 127 from rfl, it_add, ← rep7, d65537_6]; decide +kernel
theorem d65537_8 : (it 511 1#32).toNat = 3306904939 := by rw [show 511 = 256 + 255 from rfl, it_add, ← rep8, d65537_7]; decide +kernel
theorem d65537_9 : (it 1023 1#32).toNat = 1744824934 := by rw [show 1023 = 512 + 511 from rfl, it_add, ← rep9, d65537_8]; decide +kernel
theorem d65537_10 : (it 2047 1#32).toNat = 1192748503 := by rw [show 2047 = 1024 + 1023 from rfl, it_add, ← rep10, d65537_9]; decide +kernel
theorem d65537_11 : (it 4095 1#32).toNat = 551925328 := by rw [show 4095 = 2048 + 2047 from rfl, it_add, ← rep11, d65537_10]; decide +kernel
theorem d65537_12 : (it 8191 1#32).toNat = 710075551 := by rw [show 8191 = 4096 + 4095 from rfl, it_add, ← rep12, d65537_11]; decide +kernel
theorem d65537_13 : (it 16383 1#32).toNat = 3390861959 := by rw [show 16383 = 8192 + 8191 from rfl, it_add, ← rep13, d65537_12]; decide +kernel
theorem d65537_14 : (it 32767 1#32).toNat = 3048297048 := by rw [show 32767 = 16384 + 16383 from rfl, it_add, ← rep14, d65537_13]; decide +kernel
theorem d65537_15 : (it 65535 1#32).toNat = 2981948293 := by rw [show 65535 = 32768 + 32767 from rfl, it_add, ← rep15, d65537_14]; decide +kernel
theorem d65537 : it 65535 1#32 ≠ 1#32 := fun h => absurd ((d65537_15).symm.trans (congrArg BitVec.toNat h)) (by decide)

theorem st_inj0 (s : B) (h : st s = 0#32) : s = 0#32 := by
  have h0 := congrArg (fun b : B => b.getLsbD 31) h
  unfold st at h0
  simp only [BitVec.getLsbD_xor, BitVec.getLsbD_ushiftRight] at h0
  rw [BitVec.getLsbD_of_ge s (1 + 31) (by omega)] at h0
  have hl : s.getLsbD 0 = false := by
    cases hc : s.getLsbD 0 with
    | false => rfl
    | true => rw [hc] at h0; exact absurd h0 (by decide)
  rw [st_low s hl] at h
  have hn := congrArg BitVec.toNat h
  rw [BitVec.toNat_ushiftRight, Nat.shiftRight_eq_div_pow, Nat.pow_one] at hn
  rw [BitVec.getLsbD, Nat.testBit_zero] at hl
  apply BitVec.eq_of_toNat_eq
  have hl2 : ¬ s.toNat % 2 = 1 := by simpa using hl
  have hn2 : s.toNat / 2 = 0 := hn
  show s.toNat = 0
  omega
theorem xor_eq_zero {a b : B} (h : a ^^^ b = 0#32) : a = b := by
  have h2 : (a ^^^ b) ^^^ b = 0#32 ^^^ b := by rw [h]
  rwa [BitVec.xor_assoc, BitVec.xor_self, BitVec.xor_zero, BitVec.zero_xor] at h2
theorem it_inj0 (n : Nat) (s : B) (h : it n s = 0#32) : s = 0#32 := by
  induction n with
  | zero => exact h
  | succ n ih => exact ih (st_inj0 _ h)
theorem it_inj {n : Nat} {a b : B} (h : it n a = it n b) : a = b := by
  have h2 : it n (a ^^^ b) = 0#32 := by rw [it_xor, h, BitVec.xor_self]
  exact xor_eq_zero (it_inj0 n _ h2)
theorem it_mul (d q : Nat) (s : B) (h : it d s = s) : it (d * q) s = s := by
  induction q with
  | zero => rfl
  | succ q ih => rw [Nat.mul_succ, it_add, h, ih]
theorem it_mod {d : Nat} {s : B} (N : Nat) (h : it d s = s) (hN : it N s = s) : it (N % d) s = s := by
  have e : N % d + d * (N / d) = N := Nat.mod_add_div N d
  rw [← e, it_add, it_mul d _ s h] at hN
  exact hN
theorem small_prime (p : Nat) (hp : p ∈ [3, 5, 17, 257]) : ∀ g, g ≤ p → g ∣ p → g = 1 ∨ g = p := by
  simp at hp
  rcases hp with rfl | rfl | rfl | rfl <;> decide +kernel
theorem great_prime (g : Nat) (h : g ∣ 65537) : g = 1 ∨ g = 65537 := by
  obtain ⟨f, hf⟩ := h
  have key : ∀ m, m < 257 → 1 < m → ¬ 65537 % m = 0 := by decide +kernel
  by_cases hg : g < 257
  · by_cases h1 : 1 < g
    · exact absurd (by rw [hf]; exact Nat.mul_mod_right g f) (key g hg h1)
    · have : g = 0 ∨ g = 1 := by omega
      rcases this with rfl | rfl
      · simp at hf
      · exact .inl rfl
  · have hfl : f < 257 := by
      rcases Nat.lt_or_ge f 257 with h2 | h2
      · exact h2
      · have := Nat.mul_le_mul (show 257 ≤ g by omega) h2
        omega
    by_cases h1 : 1 < f
    · exact absurd (by rw [hf]; exact Nat.mul_mod_left g f) (key f hfl h1)
    · have : f = 0 ∨ f = 1 := by omega
      rcases this with rfl | rfl
      · simp at hf
      · right; omega
theorem divides_or (p h : Nat) (hp : ∀ g, g ∣ p → g = 1 ∨ g = p) : Nat.Coprime h p ∨ p ∣ h := by
  rcases hp (Nat.gcd h p) (Nat.gcd_dvd_right h p) with e | e
  · exact .inl e
  · right; rw [← e]; exact Nat.gcd_dvd_left h p
theorem least_power (d : Nat) (hd : 0 < d) (hlt : d < 16777216) : it d 1#32 ≠ 1#32 := by
  induction d using Nat.strongRecOn with
  | _ d ih =>
    intro h
    have hm := it_mod 4294967295 h all
    by_cases hz : 4294967295 % d = 0
    · obtain ⟨q, hq⟩ := Nat.dvd_of_mod_eq_zero hz
      have hq1 : q ≠ 1 := by rintro rfl; omega
      have hp3 := divides_or 3 q (fun g hg => small_prime 3 (by simp) g (Nat.le_of_dvd (by omega) hg) hg)
      have hp5 := divides_or 5 q (fun g hg => small_prime 5 (by simp) g (Nat.le_of_dvd (by omega) hg) hg)
      have hp17 := divides_or 17 q (fun g hg => small_prime 17 (by simp) g (Nat.le_of_dvd (by omega) hg) hg)
      have hp257 := divides_or 257 q (fun g hg => small_prime 257 (by simp) g (Nat.le_of_dvd (by omega) hg) hg)
      have hp6 := divides_or 65537 q great_prime
      have go : ∀ p m, p ∣ q → 0 < p → p * m = 4294967295 → it m 1#32 = 1#32 := by
        intro p m ⟨r, hr⟩ hp hpm
        have e : m = d * r := by
          have : p * m = p * (d * r) := by rw [hpm, hq, hr]; ac_rfl
          exact Nat.eq_of_mul_eq_mul_left hp this
        rw [e]
        exact it_mul d r _ h
      rcases hp3 with c3 | c3
      · rcases hp5 with c5 | c5
        · rcases hp17 with c17 | c17
          · rcases hp257 with c257 | c257
            · rcases hp6 with c6 | c6
              · have c : Nat.Coprime q (3 * (5 * (17 * (257 * 65537)))) := Nat.Coprime.mul_right c3 (Nat.Coprime.mul_right c5 (Nat.Coprime.mul_right c17 (Nat.Coprime.mul_right c257 c6)))
                have hq2 : q ∣ 3 * (5 * (17 * (257 * 65537))) := ⟨d, by rw [Nat.mul_comm q d, ← hq]⟩
                exact hq1 (Nat.Coprime.eq_one_of_dvd c hq2)
              · exact d65537 (go 65537 65535 c6 (by omega) rfl)
            · exact d257 (go 257 16711935 c257 (by omega) rfl)
          · exact d17 (go 17 252645135 c17 (by omega) rfl)
        · exact d5 (go 5 858993459 c5 (by omega) rfl)
      · exact d3 (go 3 1431655765 c3 (by omega) rfl)
    · have hl := Nat.mod_lt 4294967295 hd
      exact ih _ hl (by omega) (by omega) hm
theorem two_powers {a b : Nat} (ha : a < 16777216) (hb : b < 16777216) (h : it a 1#32 = it b 1#32) : a = b := by
  rcases Nat.lt_trichotomy a b with hl | hl | hl
  · have e : b = a + (b - a) := by omega
    rw [e, it_add] at h
    exact absurd (it_inj h).symm (least_power (b - a) (by omega) (by omega))
  · exact hl
  · have e : a = b + (a - b) := by omega
    rw [e, it_add] at h
    exact absurd (it_inj h) (least_power (a - b) (by omega) (by omega))
end Go.Proofs.YtoeiaimoppmjdaaDoor.Crc
