/- A part of TopRoom's proof. No condition. -/
import Derived.Test.YtglilpjokhgidaaGreatDoorB
set_option maxRecDepth 100000
set_option maxHeartbeats 4000000
set_option linter.unusedVariables false
set_option linter.unusedSimpArgs false
namespace Go.Proofs.YtglilpjokhgidaaGreatDoor
open Go.Proofs.Tryz (prog)
open Go.IntKind
namespace T.Q
open Go V
variable {X:CX}
def b3 (a b c d:TV):RA X:=bx 0 b λb=>ck 4 [a] λa e=>al pT 0 λf=>sx 9 f a <| uo .not e λa=>gf a (lg 5 b) λe=>gf a (af 5 [e]) λe=>gk a (uo .not e) λa=>br a (af 6 [] λa=>rt a) (lg 5 b λa=>al z24 0 λe=>sx 5 e a <| pl 3 b λa=>cv 5 3 c λc=>ba 3 a c λa=>px 3 e 1 a <| pl 4 b λa=>cv 5 3 d λc=>ba 3 a c λa=>bi .min #[3,3] 3 #[false,true] [a,(I 1000)] λa=>px 4 e 1 a <| lg 9 f λa=>lg 5 b λb=>ck 7 [a,b] λa b=>lg 9 f λc=>lg 5 e λd=>ck 7 [c,d] λc d=>be 40 (bw a) Vn λe=>mf e (bw c) λf=>gk e (be 40 f Vn) λe=>mf e (bw b) λb=>gk e (bn 41 b I0) λb=>mf b (bw d) λd=>gk b (bn 41 d I0) λb=>br b (rt Bf) (af 8 [(bw a),(I (-1))] λb=>af 8 [(bw c),(I (-1))] λd=>al JL 0 λe=>al JL 0 λf=>sx 3 e b <| sx 3 f d <| pl 0 e λb=>be 5 b (U 2) λb=>gt b (pa 1 e) λd=>gt b (l1 d) λd=>gt b (be 5 d (U 4)) λd=>mt b (bw d) λd=>gf d (pa 1 e) λg=>gf d (l1 g) λg=>gf d (be 5 g (U 5)) λg=>gj b (pk d Bt g) λb=>br b (af 10 [(bw a)] λb=>fd 4 false 1 b λb=>af 10 [(bw c)] λd=>fd 4 false 1 d λd=>af 9 [b,d] λb=>mt b (bw a) λd=>gt b (af 11 [d]) λd=>mt b (bw c) λg=>gt b (af 11 [g]) λg=>gj b (bm 3 d g) λb=>gj b (af 6 []) λb=>rt b) (lg 3 e λb=>lg 3 f λd=>be 45 b d λb=>mt b (bw a) λa=>gt b (af 13 [a]) λa=>mt b (bw c) λc=>gt b (af 13 [c]) λc=>gj b (af 12 [a,c]) λa=>gj a (af 6 []) λa=>rt a)))
theorem e3:E4 3 b3:=.f4
def b4 (a:TV):RA X:=al pT 0 λb=>ln 9 (bw a) λc=>HO 3 c (I 2000) (bu pT Ky [] λc=>sx 9 b c <| ly 9 b λc=>rv [c,Bf]) (ck 14 [a] λa c=>al pT 0 λd=>al gJ 0 λe=>sx 9 d a <| sx 3 e c <| lg 9 d λa=>pa 0 e λc=>l1 c λd=>be 41 d I0 λe=>sv λf g=>sx 9 b a <| rc [rl true false false (some b) false 1 c d f g] <| ly 9 b λa=>rv [a,e])
theorem e4:E1 4 b4:=.f1
def b5 (a:TV):RA X:=bx 0 a λa=>lc 5 a 15 λb=>gt b (pa 2 a) λc=>gt b (l1 c) λc=>gj b (bm 3 c (I 400)) λb=>gt b (pa 3 a) λc=>gt b (l1 c) λc=>gj b (bm 3 c (I 400)) λb=>gt b (pa 0 a) λc=>gt b (l1 c) λc=>gt b (ln 22 c) λc=>gj b (bm 3 c (I 100)) λb=>gt b (pa 1 a) λa=>gt b (l1 a) λa=>gt b (ln 22 a) λa=>gj b (bm 3 a (I 100)) λa=>rt a
theorem e5:E1 5 b5:=.f1
def b7 (a b:TV):RA X:=bx 0 a λa=>bx 0 b λb=>lc 5 b 17 λc=>uo .not c λc=>br c (rv [Vn,I1]) (lg 9 a λc=>lg 9 a λd=>lg 5 b λe=>sv λf g=>af 19 [d] λd=>rc [rm 9 a c f g,rm 5 b e f g] <| af 18 [c,d,e] λa=>bu z162 p73 [(0,a)] λa=>ER 0 a λa=>nl 0 (bw a) λb=>af 20 [b,I0] λb=>rv [a,I0])
theorem e7:E2 7 b7:=.f2
def b8 (a b:TV):RA X:=al JL 0 λc=>aE 40 (bw a) Vn (bu JL kD [] λd=>sx 3 c d <| lr 3 c) (bl 3 (bw b) I0 λd=>mf d (bw b) λe=>mf d (bw a) λf=>gf d (nk f) λf=>gf d (pa 0 f) λf=>gf d (l1 f) λf=>gf d (nk f) λf=>gf d (pa 19 f) λf=>gf d (l1 f) λf=>gk d (bg 3 e f) λd=>jn (nl 0 a λe=>np 23 e λe=>lx 3 e 3 c <| lr 3 c) λc=>br d (nl 0 (bw a) λa=>af 20 [a,b] λa=>c) c)
theorem e8:E2 8 b8:=.f2
def b9 (a b:TV):RA X:=ln 9 (bw a) λc=>ln 9 (bw b) λd=>bm 3 c d λc=>mt c (bw b) λb=>mt c (bw a) λd=>gt c (ln 9 d) λd=>gt c (sl 9 b none (some d) none) λb=>mt c (bw a) λa=>gj c (be 9 b a) λa=>rt a
theorem e9:E2 9 b9:=.f2
def b10 (a:TV):RA X:=al z51 0 λb=>aE 40 (bw a) Vn (bu z51 P2 [] λc=>sx 7 b c <| lr 7 b) (nl 0 a λa=>cx 21 [a] 7 b <| lr 7 b)
theorem Fz:E1 10 b10:=.f1
def b11 (a:TV):RA X:=aE 40 (bw a) Vn (rt I0) (nl 0 a λa=>nl 19 a λa=>rt a)
theorem Bs:E1 11 b11:=.f1
def Jh:RA X:=rt Bt
def xw (a:LB X) (b c d e:TV):RA X:=cT 3 e d (jn (ba 3 e I1 λf=>a [b,c,d,f]) λa=>pl 1 b λd=>iq 5 1 d (bw (bw e)) λd=>pl 1 c λf=>iq 5 1 f (bw (bw e)) λf=>bn 3 d f λd=>gf d (pa 1 b) λb=>gf d (l1 b) λb=>mf d (bw (bw e)) λf=>gf d (ia 5 b f) λb=>gf d (pa 4 b) λb=>gf d (l1 b) λb=>gf d (pa 1 c) λc=>gf d (l1 c) λc=>mf d (bw (bw e)) λe=>gf d (ia 5 c e) λc=>gf d (pa 4 c) λc=>gf d (l1 c) λc=>gf d (af 24 [b,c]) λb=>gk d (uo .not b) λb=>br b (rt Bf) a) (Jh)
def b12 (a b:TV):RA X:=bx 0 a λa=>bx 0 b λb=>lg 7 a λc=>lg 7 b λd=>sv λe f=>af 23 [c] λc=>rc [rm 7 b d e f] <| af 23 [d] λd=>af 22 [c,d] λc=>uo .not c λc=>br c (rt Bf) (pl 1 a λc=>ln 55 c λc=>lp [2,3,14,15] (λk=>a4 (xw k)) [a,b,c,I0])
def QC:cL X:=aT [(58,[2,3,14,15],λ_ k=>a4 (xw k))]
theorem M8:E2 12 b12:=.G2 @QC λ_=>.s (.s (.q (.lt λk1=>.l) .l))
def Jg (a b:TV):RA X:=lx 7 b 7 a <| lr 7 a
def xu (a:LB X) (b c d e f g:TV):RA X:=cT 3 g f (jn (ba 3 g I1 λh=>a [b,c,d,e,f,h]) λa=>ia 3 e g λe=>lg 3 e λe=>al zn 0 λf=>sx 3 f e <| nl 0 (bw b) λb=>nl 21 b λb=>il 1 b (bw g) λb=>pa 1 d λe=>lt false 1 e λg=>pa 0 f λh=>l1 h λi=>np 1 (bw b) λj=>l1 j λk=>pa 1 f λl=>l1 l λm=>pa 2 f λf=>l1 f λn=>nl 4 b λb=>sv λo p=>af 25 [b] λb=>rc [rn e g o p,rn h i o p,rn j k o p,rn l m o p,rn f n o p] <| bu z86 nc [(0,i),(1,k),(2,m),(3,n),(4,b)] λb=>bs 0 1 z86 [(0,b)] λb=>ap false 5 72 0 g b λb=>px 1 d 1 b <| a) (Jg c d)
def b13 (a:TV):RA X:=al z51 0 λb=>aE 40 (bw a) Vn (bu z51 P2 [] λc=>sx 7 b c <| lr 7 b) (nl 0 (bw a) λc=>af 21 [c] λc=>al z51 0 λd=>sx 7 d c <| pl 0 d λc=>pl 2 d λe=>pl 3 d λf=>pl 4 d λg=>pl 5 d λh=>pl 6 d λi=>bu z51 P2 [(0,c),(2,e),(3,f),(4,g),(5,h),(6,i)] λc=>al z51 0 λe=>sx 7 e c <| pl 1 d λc=>ln 48 c λd=>lp [0,2,4,30,31,32] (λk=>a6 (xu k)) [a,b,e,c,d,I0])
def QB:cL X:=aT [(250,[0,2,4,30,31,32],λ_ k=>a6 (xu k))]
theorem NF:E1 13 b13:=.G1 @QB λ_=>.s (.s (.s (.s (.q (.lt λk1=>.l) .l))))
def b14 (a:TV):RA X:=al pT 0 λb=>al gJ 0 λc=>ck 26 [a] λa d=>al gJ 0 λe=>sx 3 e d <| pl 0 e λd=>kE 41 d I0 (bu pT Ky [] λd=>lg 3 e λf=>sv λg h=>sx 9 b d <| rc [rl true false false (some b) true 3 e f g h] <| sx 3 c f <| ly 9 b λd=>ly 3 c λe=>rv [d,e]) (ck 27 [a] λa d=>sx 9 b a <| sx 3 c d <| ly 9 b λa=>ly 3 c λb=>rv [a,b])
theorem ND:E1 14 b14:=.f1
def JC (a:TV):RA X:=bx 0 a λa=>pl 2 a λb=>bh 3 b I0 λb=>gt b (pa 2 a) λc=>gt b (l1 c) λc=>gj b (bm 3 c (I 1048576)) λb=>gt b (pa 3 a) λc=>gt b (l1 c) λc=>gj b (bh 3 c I0) λb=>gt b (pa 3 a) λc=>gt b (l1 c) λc=>gj b (bm 3 c (I 65536)) λb=>gt b (pa 4 a) λc=>gt b (l1 c) λc=>gj b (bh 3 c I1) λb=>gt b (pa 4 a) λa=>gt b (l1 a) λa=>gj b (bm 3 a (I 1000)) λa=>rt a
theorem yt:E1 15 JC:=.f1
def b17 (a:TV):RA X:=bx 0 a λa=>pl 2 a λb=>bh 3 b I0 λb=>gt b (pa 2 a) λc=>gt b (l1 c) λc=>gj b (bm 3 c (I 1048576)) λb=>gt b (pa 3 a) λc=>gt b (l1 c) λc=>gj b (bh 3 c I0) λb=>gt b (pa 3 a) λc=>gt b (l1 c) λc=>gj b (bm 3 c (I 65536)) λb=>gt b (pa 4 a) λc=>gt b (l1 c) λc=>gj b (bh 3 c I1) λb=>gt b (pa 4 a) λa=>gt b (l1 a) λa=>gj b (bm 3 a (I 1000)) λa=>rt a
theorem e17:E1 17 b17:=.f1
def Dg (a b:TV):RA X:=pl 5 a λa=>af 33 [a,(.v (.func (.func 34) #[] #[]))] λa=>cT 3 (bw a) I0 (np 22 (bw b) λc=>sx 1 c Bt <| rt b) (af 35 [(bw b),a,N0] λa=>rt b)
def sj (a:LB X) (b c d e:TV):RA X:=cT 3 e d (jn (ba 3 e I1 λf=>a [b,c,d,f]) λa=>np 26 (bw c) λd=>lt false 1 d λf=>pl 2 b λg=>sv λh i=>af 32 [g,(bw e)] λe=>rc [rn d f h i] <| bs 0 1 cE [(0,e)] λd=>ap true 4 32 2 f d λd=>np 26 (bw c) λe=>sx 1 e d <| a) (Dg b c)
def b18 (a b c:TV):RA X:=bx 0 a λa=>bx 0 b λb=>bx 0 c λc=>lg 9 a λd=>lg 3 b λe=>lg 5 c λf=>pl 0 c λg=>pl 1 c λh=>pa 0 b λi=>l1 i λj=>ln 66 j λl=>ms 2 4 24 WU l l λm=>pa 5 a λn=>l1 n λo=>ln 30 o λp=>ms 2 1 8 z3 p p λq=>sv λr s=>af 30 [g,h,I0,I0] λg=>rc [rl true true false none true 9 a d r s,rl true true false none true 3 b e r s,rl true true false none true 5 c f r s,rl true true false none false 1 i j r s,Yv X 66 j l,rl true true false none false 1 n o r s,Yv X 30 o p] <| bu z82 p82 [(0,d),(1,e),(2,f),(4,g),(11,m),(12,q)] λb=>ER 0 b λb=>pl 3 c λc=>ck 31 [c] λc d=>np 17 (bw b) λd=>sx 1 d c <| pl 2 a λc=>ln 27 c λc=>lp [3,7,39,40] (λk=>a4 (sj k)) [a,b,c,I0]
def QA:cL X:=aT [(122,[3,7,39,40],λ_ k=>a4 (sj k))]
theorem e18:E3 18 b18:=.G3 @QA λ_=>.s (.s (.s (.q (.lt λk1=>.l) .l)))
def Jf (a b:TV):RA X:=np 9 b λb=>lx 3 b 3 a <| lr 3 a
def Cc (a:LB X) (b c d e f:TV):RA X:=cT 3 f e (jn (ba 3 f I1 λg=>a [b,c,d,e,g]) λa=>ia 8 d f λd=>lg 8 d λd=>al qL 0 λe=>sx 8 e d <| np 9 (bw c) λd=>pl 0 d λd=>ln 66 d λd=>np 12 (bw c) λf=>sx 1 f d <| pl 1 e λd=>af 36 [(bw c),d] λd=>ln 31 d λf=>bj 3 f I1 λf=>il 1 (bw d) f λd=>af 37 [(bw c),d] λd=>pl 1 e λd=>af 38 [(bw c),(U 26),I0,d] λd=>np 12 (bw c) λd=>l1 d λf=>pa 2 e λg=>l1 g λh=>pa 5 e λi=>l1 i λj=>al JN 0 λk=>sv λl m=>af 39 [(bw c)] λn=>rc [rn d f l m,rn g h l m,rn i j l m] <| bu JN nc [(0,f),(1,n),(2,h),(3,j)] λd=>sx 5 k d <| pl 3 e λd=>bn 3 d I0 λd=>jn (np 9 (bw c) λe=>pa 1 e λe=>lt false 1 e λe=>lg 5 k λf=>bs 0 1 JN [(0,f)] λf=>ap false 5 40 0 e f λe=>np 9 (bw c) λf=>px 1 f 1 e <| a) λa=>br d (px 4 k 1 I1 <| a) a) (Jf b c)
def b19 (a:TV):RA X:=bx 0 a λa=>al z70 0 λb=>lg 9 a λc=>mm λd=>bu z117 YM [(0,c),(3,d)] λc=>ER 0 c λc=>pl 5 a λa=>ln 30 a λd=>lp [2,3,13,14,15] (λk=>a5 (Cc k)) [b,c,a,d,I0]
def Qz:cL X:=aT [(58,[2,3,13,14,15],λ_ k=>a5 (Cc k))]
theorem e19:E1 19 b19:=.G1 @Qz λ_=>.s (.s (.q (.lt λk1=>.l) .l))
def xr (a:LB X) (b c:TV):RA X:=nl 22 (bw b) λd=>uo .not d λd=>mt d (bw b) λe=>mt d (bw c) λf=>gj d (af 40 [e,f]) λd=>br d (a [b,c]) (rv [])
def b20 (a b:TV):RA X:=lp [0,1] (λk=>a2 (xr k)) [a,b]
def Qy:cL X:=aT [(2,[0,1],λ_ k=>a2 (xr k))]
theorem e20:E2 20 b20:=.G2 @Qy λ_=>.block (.lt λk1=>.l)
def yg (a b:TV):RA X:=lx 7 b 7 a <| lr 7 a
def xq (a:LB X) (b c d e f:TV):RA X:=cT 3 f e (jn (ba 3 f I1 λg=>a [b,c,d,e,g]) λa=>il 1 d f λd=>pa 1 c λe=>lt false 1 e λf=>np 0 (bw d) λg=>l1 g λh=>np 2 (bw d) λi=>l1 i λj=>nl 3 d λd=>sv λk l=>af 25 [d] λd=>rc [rn e f k l,rn g h k l,rn i j k l] <| bu zn kD [(0,h),(1,j),(2,d)] λd=>bs 0 1 zn [(0,d)] λd=>ap false 3 40 0 f d λd=>px 1 c 1 d <| a) (yg b c)
def b21 (a:TV):RA X:=al z51 0 λb=>np 19 (bw a) λc=>l1 c λd=>nl 17 (bw a) λe=>np 17 (bw a) λf=>l1 f λg=>np 20 (bw a) λh=>l1 h λi=>cv 77 9 i λj=>al z51 0 λl=>sv λm n=>af 41 [e] λe=>rc [rn c d m n,rn f g m n,rn h i m n,VU X 77 9 i j] <| sv λm n=>af 42 [g] λf=>rc [rn c d m n,rn h i m n,VU X 77 9 i j] <| bu z51 P2 [(0,d),(2,e),(3,f),(4,j)] λc=>sx 7 l c <| nl 18 (bw a) λc=>ck 43 [c] λc d=>px 5 l 1 c <| px 6 l 1 d <| nl 22 (bw a) λc=>uo .not c λc=>br c (nl 21 a λa=>ln 78 a λc=>lp [2,3,44,45,46] (λk=>a5 (xq k)) [b,l,a,c,I0]) (yg b l)
def Qx:cL X:=aT [(490,[2,3,44,45,46],λ_ k=>a5 (xq k))]
theorem e21:E1 21 b21:=.G1 @Qx λ_=>.s (.s (.s (.seq (.s (.cond (.s (.block (.lt λk1=>.l))) .l)) .l)))
def Je (a b:TV):RA X:=pl 2 a λa=>pl 2 b λb=>af 44 [a,b] λa=>rt a
def xp (a:LB X) (b c d e:TV):RA X:=cT 3 e d (jn (ba 3 e I1 λf=>a [b,c,d,f]) λa=>pl 1 b λd=>iq 3 0 d (bw (bw e)) λd=>pl 1 c λf=>iq 3 0 f (bw (bw e)) λf=>bn 3 d f λd=>gf d (pa 1 b) λf=>gf d (l1 f) λf=>mf d (bw (bw e)) λg=>gf d (ia 3 f g) λf=>gf d (pa 1 f) λf=>gf d (l1 f) λf=>gf d (pa 1 c) λg=>gf d (l1 g) λg=>mf d (bw (bw e)) λh=>gf d (ia 3 g h) λg=>gf d (pa 1 g) λg=>gf d (l1 g) λg=>gk d (bn 3 f g) λd=>gf d (pa 1 b) λf=>gf d (l1 f) λf=>mf d (bw (bw e)) λg=>gf d (ia 3 f g) λf=>gf d (pa 2 f) λf=>gf d (l1 f) λf=>gf d (pa 1 c) λg=>gf d (l1 g) λg=>mf d (bw (bw e)) λe=>gf d (ia 3 g e) λe=>gf d (pa 2 e) λe=>gf d (l1 e) λe=>gf d (af 24 [f,e]) λe=>gk d (uo .not e) λd=>br d (rt Bf) a) (Je b c)
def b22 (a b:TV):RA X:=bx 0 a λa=>bx 0 b λb=>pl 0 a λc=>pl 0 b λd=>bn 3 c d λc=>gf c (pa 1 a) λd=>gf c (l1 d) λd=>gf c (ln 48 d) λd=>gf c (pa 1 b) λe=>gf c (l1 e) λe=>gf c (ln 48 e) λe=>gk c (bn 3 d e) λc=>gf c (pa 3 a) λd=>gf c (l1 d) λd=>gf c (pa 3 b) λe=>gf c (l1 e) λe=>gk c (bn 3 d e) λc=>gf c (pa 4 a) λd=>gf c (l1 d) λd=>gf c (pa 4 b) λe=>gf c (l1 e) λe=>gk c (bn 9 d e) λc=>gf c (pa 5 a) λd=>gf c (l1 d) λd=>gf c (pa 5 b) λe=>gf c (l1 e) λe=>gk c (bn 3 d e) λc=>gf c (pa 6 a) λd=>gf c (l1 d) λd=>gf c (pa 6 b) λe=>gf c (l1 e) λe=>gk c (bn 3 d e) λc=>br c (rt Bf) (pl 1 a λc=>ln 48 c λc=>lp [2,3,50,51] (λk=>a4 (xp k)) [a,b,c,I0])
def Qw:cL X:=aT [(58,[2,3,50,51],λ_ k=>a4 (xp k))]
theorem e22:E2 22 b22:=.G2 @Qw λ_=>.s (.s (.q (.lt λk1=>.l) .l))
def Jd (a b:TV):RA X:=lx 7 b 7 a <| lr 7 a
def xn (a:LB X) (b c d e f:TV):RA X:=cT 3 f e (jn (ba 3 f I1 λg=>a [b,c,d,e,g]) λa=>pa 1 d λe=>lt false 1 e λe=>pl 1 b λg=>iq 5 0 g (bw (bw f)) λg=>pl 1 b λh=>iq 5 2 h (bw (bw f)) λh=>pl 1 b λb=>iq 5 3 b (bw f) λb=>bu zn kD [(0,g),(1,h),(2,b)] λb=>bs 0 1 zn [(0,b)] λb=>ap false 3 40 0 e b λb=>px 1 d 1 b <| a) (Jd c d)
def b23 (a:TV):RA X:=bx 0 a λa=>al z51 0 λb=>pl 0 a λc=>pl 2 a λd=>pl 3 a λe=>pl 4 a λf=>pl 5 a λg=>pl 6 a λh=>bu z51 P2 [(0,c),(2,d),(3,e),(4,f),(5,g),(6,h)] λc=>al z51 0 λd=>sx 7 d c <| pl 1 a λc=>ln 55 c λc=>lp [1,2,3,20,21] (λk=>a5 (xn k)) [a,b,d,c,I0]
def Qv:cL X:=aT [(58,[1,2,3,20,21],λ_ k=>a5 (xn k))]
theorem e23:E1 23 b23:=.G1 @Qv λ_=>.s (.s (.q (.lt λk1=>.l) .l))
def Jc:RA X:=rt Bt
def Ca (a:LB X) (b c d e:TV):RA X:=cT 3 e d (jn (ba 3 e I1 λf=>a [b,c,d,f]) λa=>ia 4 (bw b) (bw (bw e)) λb=>lg 4 b λb=>ia 4 (bw c) (bw e) λc=>lg 4 c λc=>kE 96 b c (rt Bf) a) (Jc)
def b24 (a b:TV):RA X:=ln 79 (bw a) λc=>ln 79 (bw b) λd=>kE 3 c d (rt Bf) (ln 79 (bw a) λc=>lp [0,1,12,13] (λk=>a4 (Ca k)) [a,b,c,I0])
def Qu:cL X:=aT [(58,[0,1,12,13],λ_ k=>a4 (Ca k))]
theorem e24:E2 24 b24:=.G2 @Qu λ_=>.s (.s (.q (.lt λk1=>.l) .l))
def b26 (a:TV):RA X:=al gJ 0 λb=>ck 45 [a] λa c=>al gJ 0 λd=>sx 3 d c <| pl 0 d λc=>kE 41 c I0 (bs 0 0 dv [] λc=>lx 3 d 3 b <| ly 3 b λd=>rv [c,d]) (bu z131 YL [(0,a)] λa=>ck 46 [a] λa c=>al z131 0 λd=>sx 6 d c <| lg 6 d λc=>ck 47 [a,c] λa c=>sx 3 b c <| ly 3 b λb=>rv [a,b])
theorem e26:E1 26 b26:=.f1
def Jb (a b c d:TV):RA X:=pq 12 0 d λe=>kE 41 e I0 (bu pT Ky [] λe=>pa 12 d λf=>lg 3 f λg=>sv λh i=>sx 9 a e <| rc [rl true false false (some a) true 3 f g h i] <| sx 3 b g <| ly 9 a λe=>ly 3 b λf=>rv [e,f]) (pl 1 d λd=>px 1 c 1 d <| lg 9 c λc=>bu gJ kD [] λd=>sx 9 a c <| sx 3 b d <| ly 9 a λa=>ly 3 b λb=>rv [a,b])
def C9 (a:LB X) (b c d e f g h:TV):RA X:=cT 3 h g (jn (ba 3 h I1 λi=>a [b,c,d,e,f,g,i]) λa=>pl 5 e λg=>iq 8 1 g (bw (bw h)) λg=>af 49 [(bw b),g] λb=>pl 5 e λg=>iq 8 3 g (bw (bw h)) λg=>px 15 f 1 g <| lg 16 f λg=>ln 31 b λi=>bj 3 i I1 λi=>il 1 (bw b) i λb=>al ek 0 λi=>ck 50 [g,b] λb g=>sx 16 i g <| lx 16 i 16 f <| pl 15 f λg=>bn 3 g I0 λg=>mt g (bw b) λb=>gj g (uo .not b) λb=>br b (lg 16 f λb=>pl 5 e λg=>iq 8 1 g (bw h) λg=>cx 51 [b,(I 12),g] 16 f <| a) a) (Jb c d e f)
def b27 (a:TV):RA X:=al pT 0 λb=>al gJ 0 λc=>ck 48 [(bw a)] λd e=>al pT 0 λf=>al gJ 0 λg=>sx 9 f d <| sx 3 g e <| pl 0 g λd=>kE 41 d I0 (bu pT Ky [] λd=>lg 3 g λe=>sv λh i=>sx 9 b d <| rc [rl true false false (some b) true 3 g e h i] <| sx 3 c e <| ly 9 b λd=>ly 3 c λe=>rv [d,e]) (pl 1 f λd=>lg 9 f λe=>pl 2 f λg=>bu ek YK [(0,(bw a)),(1,d),(2,e),(3,g)] λd=>al ek 0 λe=>sx 16 e d <| pl 5 f λd=>ln 30 d λd=>lp [0,2,3,4,6,30,31] (λk=>a7 (C9 k)) [a,b,c,f,e,d,I0])
def Qt:cL X:=aT [(250,[0,2,3,4,6,30,31],λ_ k=>a7 (C9 k))]
theorem Wv:E1 27 b27:=.G1 @Qt λ_=>.s (.s (.s (.s (.q (.lt λk1=>.l) .l))))
def b30 (a b c d:TV):RA X:=af 56 [(bw a)] λe=>af 56 [(bw b)] λf=>bi .max #[3,3] 3 #[false,true] [c,I0] λc=>ln 22 a λa=>bi .min #[3,3] 3 #[false,false] [c,a] λa=>bi .max #[3,3] 3 #[false,true] [d,I0] λc=>ln 22 b λb=>bi .min #[3,3] 3 #[false,false] [c,b] λb=>bu WS cM [(0,e),(1,f),(2,a),(3,b)] λa=>ER 0 a λa=>rt a
theorem e30:E4 30 b30:=.f4
def b31 (a:TV):RA X:=bl 3 (bw a) I0 λb=>mf b (bw a) λc=>gk b (bg 3 c (I 65536)) λb=>br b (rv [Vn,I1]) (bu zn kD [(0,a)] λa=>ER 0 a λa=>rv [a,I0])
theorem e31:E1 31 b31:=.f1
def b32 (a b:TV):RA X:=al cE 0 λc=>af 57 [(bw a)] λd=>uo .not d λd=>mf d (bw b) λe=>gk d (bl 3 e I0) λd=>mf d (bw b) λe=>mf d (bw a) λf=>gf d (ln 27 f) λf=>gk d (bh 3 e f) λd=>br d (bu cE cM [] λd=>sx 4 c d <| lr 4 c) (iq 2 0 a b λa=>bi .min #[5,5] 5 #[false,true] [a,(U 5)] λa=>bu cE cM [(0,a)] λa=>sx 4 c a <| lr 4 c)
theorem e32:E2 32 b32:=.f2
def Ja:RA X:=rt (I (-1))
def C8 (a:LB X) (b c d e:TV):RA X:=cT 3 e d (jn (ba 3 e I1 λf=>a [b,c,d,f]) λa=>ia 8 (bw b) (bw (bw e)) λb=>lg 8 b λb=>dy 0 (bw c) [b] λb=>br b (rt (bw e)) a) (Ja)
def b33 (a b:TV):RA X:=ln 30 (bw a) λc=>lp [0,1,7,8] (λk=>a4 (C8 k)) [a,b,c,I0]
def Qs:cL X:=aT [(26,[0,1,7,8],λ_ k=>a4 (C8 k))]
theorem e33:E2 33 b33:=.G2 @Qs λ_=>.s (.q (.lt λk1=>.l) .l)
def b34 (a:TV):RA X:=bx 0 a λa=>pl 0 a λa=>be 9 a (S [109,97,105,110]) λa=>rt a
theorem e34:E1 34 b34:=.f1
def D6 (a b c:TV):RA X:=bu z93 Aq [(0,(bw b)),(3,c)] λc=>ER 0 c λc=>np 21 (bw a) λd=>lt false 1 d λd=>bs 1 1 z162 [(0,(bw c))] λe=>ap true 1 8 2 d e λd=>np 21 (bw a) λe=>sx 1 e d <| nl 28 a λa=>il 1 a b λd=>ba 3 d I1 λd=>ia 1 a b λa=>sx 1 a d <| rt c
def xk (a:LB X) (b c d e f:TV):RA X:=pl 5 d λg=>cT 3 (bw f) g (jn (λ(g:TV)=>ba 3 f I1 λh=>a [b,c,d,g,h]) λa=>nl 26 (bw b) λg=>np 0 (bw b) λh=>pl 6 h λh=>pl 4 d λd=>ba 3 d (bw f) λd=>il 1 h d λd=>ia 4 g d λd=>lg 4 d λd=>bs 0 1 cE [(0,d)] λd=>ap true 4 32 2 e d λd=>a d) (D6 b c e)
def b35 (a b c:TV):RA X:=np 0 (bw a) λd=>pl 5 d λd=>ia 8 d (bw b) λd=>lg 8 d λd=>al qL 0 λe=>sx 8 e d <| af 2025 [(bw c)] λd=>ln 79 c λc=>lp [0,1,7,8,9] (λk=>a5 (xk k)) [a,b,e,d,c]
def Qr:cL X:=aT [(122,[0,1,7,8,9],λ_ k=>a5 (xk k))]
theorem e35:E3 35 b35:=.G3 @Qr λ_=>.s (.s (.s (.q (.lt λk1=>.l) .l)))
def J9 (a:TV):RA X:=rt a
def C7 (a:LB X) (b c d e:TV):RA X:=iq 6 3 (bw d) (bw b) λf=>ba 3 (bw b) f λf=>WD 3 (bw e) f (jn (λ(f:TV)=>iq 6 3 (bw d) e λg=>ba 3 I1 g λg=>ba 3 (bw e) g λg=>a [b,f,d,g]) λa=>bs 0 1 z3 [(0,(bw e))] λb=>ap false 1 8 0 c b λb=>a b) (J9 c)
def b36 (a b:TV):RA X:=np 0 a λa=>pl 0 a λa=>ba 3 (bw b) I1 λc=>lp [1,5,6,7] (λk=>a4 (C7 k)) [b,N0,a,c]
def Qq:cL X:=aT [(122,[1,5,6,7],λ_ k=>a4 (C7 k))]
theorem e36:E2 36 b36:=.G2 @Qq λ_=>.s (.s (.s (.q (.lt λk1=>.l) .l)))
def C6 (a:LB X) (b c d e:TV):RA X:=cT 3 e d (jn (ba 3 e I1 λf=>a [b,c,d,f]) λa=>il 1 c e λc=>af 58 [(bw b),c] λb=>a) (rv [])
def b37 (a b:TV):RA X:=af 36 [(bw a),b] λb=>ln 31 b λc=>lp [0,8,9,10] (λk=>a4 (C6 k)) [a,b,c,I0]
def Qp:cL X:=aT [(6,[0,8,9,10],λ_ k=>a4 (C6 k))]
theorem e37:E2 37 b37:=.G2 @Qp λ_=>.s (.block (.lt λk1=>.l))
def b38 (a b c d:TV):RA X:=np 9 (bw a) λe=>pa 0 e λe=>lt false 1 e λe=>np 0 (bw a) λf=>pl 0 f λf=>iq 6 1 f d λd=>bu JO kD [(0,b),(1,c),(2,d)] λb=>bs 0 1 JO [(0,b)] λb=>ap true 3 24 2 e b λb=>np 9 (bw a) λc=>px 0 c 1 b <| np 9 (bw a) λb=>pl 0 b λb=>ln 66 b λb=>bj 3 b I1 λb=>nl 12 a λa=>bj 3 b a λa=>rt a
theorem e38:E4 38 b38:=.f4
def b39 (a:TV):RA X:=np 9 (bw a) λb=>pl 0 b λb=>ln 66 b λb=>nl 12 a λa=>bj 3 b a λa=>rt a
theorem e39:E1 39 b39:=.f1
def WI (a b:TV):RA X:=af 59 [(bw a)] λc=>np 9 (bw a) λd=>pl 1 d λd=>nl 0 (bw c) λe=>iq 5 0 d e λd=>nl 1 (bw c) λe=>ba 3 d e λd=>np 9 (bw a) λe=>pl 0 e λe=>ia 3 e (bw d) λe=>lg 3 e λe=>al JO 0 λf=>sx 3 f e <| pl 0 f λe=>aE 5 e (U 1) (pl 1 f λe=>af 60 [a,e,b] λb=>uo .not b λb=>br b (rt Bf) (nl 1 c λb=>ba 3 b I1 λb=>np 1 c λe=>sx 1 e b <| rt Bt)) (nl 1 (bw c) λb=>ba 3 b I1 λb=>np 1 (bw c) λe=>sx 1 e b <| lg 3 f λb=>af 61 [a,c,b,d] λa=>rt Bt)
theorem Wu:E2 40 WI:=.f2
def J8 (a:TV):RA X:=rt a
def C5 (a:LB X) (b c d e:TV):RA X:=cT 3 e d (jn (λ(f:TV)=>ba 3 e I1 λg=>a [f,c,d,g]) λa=>il 1 c e λc=>np 0 c λc=>lg 4 c λc=>al z164 0 λd=>sx 4 d c <| pl 3 d λc=>af 25 [c] λc=>px 3 d 1 c <| lg 4 d λc=>bs 0 1 z164 [(0,c)] λc=>ap false 4 56 0 b c λc=>a c) (J8 b)
def b41 (a:TV):RA X:=aE 75 (bw a) Vn (rt N0) (nl 2 a λa=>ln 151 a λb=>lp [3,12,13,14] (λk=>a4 (C5 k)) [N0,a,b,I0])
def Qo:cL X:=aT [(122,[3,12,13,14],λ_ k=>a4 (C5 k))]
theorem e41:E1 41 b41:=.G1 @Qo λ_=>.s (.s (.s (.q (.lt λk1=>.l) .l)))
def b42 (a:TV):RA X:=aE 75 (bw a) Vn (rt I0) (nl 1 a λa=>rt a)
theorem e42:E1 42 b42:=.f1
def b43 (a:TV):RA X:=aE 76 (bw a) Vn (rv [I0,I0]) (nl 2 (bw a) λb=>nl 3 a λa=>rv [b,a])
theorem e43:E1 43 b43:=.f1
def J7:RA X:=rt Bt
def C4 (a:LB X) (b c d e:TV):RA X:=cT 3 e d (jn (ba 3 e I1 λf=>a [b,c,d,f]) λa=>iq 4 0 (bw b) (bw (bw e)) λd=>iq 4 0 (bw c) (bw (bw e)) λf=>bn 5 d f λd=>mf d (bw b) λf=>mf d (bw (bw e)) λg=>gf d (ia 4 f g) λf=>gf d (pa 1 f) λf=>gf d (l1 f) λf=>mf d (bw c) λg=>mf d (bw (bw e)) λh=>gf d (ia 4 g h) λg=>gf d (pa 1 g) λg=>gf d (l1 g) λg=>gk d (bn 3 f g) λd=>mf d (bw b) λf=>mf d (bw (bw e)) λg=>gf d (ia 4 f g) λf=>gf d (pa 2 f) λf=>gf d (l1 f) λf=>mf d (bw c) λg=>mf d (bw (bw e)) λh=>gf d (ia 4 g h) λg=>gf d (pa 2 g) λg=>gf d (l1 g) λg=>gk d (bn 9 f g) λd=>mf d (bw b) λb=>mf d (bw (bw e)) λf=>gf d (ia 4 b f) λb=>gf d (pa 3 b) λb=>gf d (l1 b) λb=>mf d (bw c) λc=>mf d (bw (bw e)) λe=>gf d (ia 4 c e) λc=>gf d (pa 3 c) λc=>gf d (l1 c) λc=>gf d (af 24 [b,c]) λb=>gk d (uo .not b) λb=>br b (rt Bf) a) (J7)
def b44 (a b:TV):RA X:=ln 49 (bw a) λc=>ln 49 (bw b) λd=>kE 3 c d (rt Bf) (ln 49 (bw a) λc=>lp [0,1,12,13] (λk=>a4 (C4 k)) [a,b,c,I0])
def Qn:cL X:=aT [(58,[0,1,12,13],λ_ k=>a4 (C4 k))]
theorem e44:E2 44 b44:=.G2 @Qn λ_=>.s (.s (.q (.lt λk1=>.l) .l))
def C2 (a:LB X) (b c d e f g h i:TV):RA X:=sl 9 (bw b) (some (bw g)) none none λj=>bj 3 (bw f) g λg=>ck 63 [j,g] λg j=>bg 3 (bw g) I1 λk=>jn (λ(l:TV) (m:TV)=>ln 9 (bw b) λn=>Tf 3 (bw f) n (bu bS nc [(0,(U 8)),(1,l),(2,m)] λn=>bs 0 1 bS [(0,n)] λn=>ap false 5 48 0 e n λn=>bu gJ kD [] λo=>sx 3 c o <| ly 3 c λo=>rv [n,o]) (af 64 [(bw b),f] λn=>ey n λo p=>ex 2 (ct 1 (ct 0 n)) λn=>al bS 0 λq=>sx 5 q o <| kE 3 (bw n) I0 (bu gJ kD [(0,n),(1,l),(2,m)] λn=>sx 3 c n <| ly 3 c λn=>rv [d,n]) (px 1 q 1 (bw l) <| px 2 q 1 (bw m) <| lg 5 q λn=>bs 0 1 bS [(0,n)] λn=>ap false 5 48 0 e n λe=>af 62 [(bw b),p] λn=>a [b,c,d,e,n,(bw f),l,m]))) λa=>br k (bj 3 g I1 λb=>ba 3 h b λb=>a b j) (bj 3 j I1 λb=>ba 3 i b λb=>a h b)
def b45 (a:TV):RA X:=al gJ 0 λb=>bs 0 0 bS [] λc=>ln 9 (bw a) λd=>HO 3 d (I 65536) (bu gJ kD [(0,(I 3))] λd=>sx 3 b d <| ly 3 b λd=>rv [c,d]) (bs 0 0 bS [] λd=>af 62 [(bw a),I0] λe=>lp [0,3,4,5,6,7,8,9] (λk=>a8 (C2 k)) [a,b,c,d,e,I0,I1,I1])
def Qm:cL X:=aT [(1022,[0,3,4,5,6,7,8,9],λ_ k=>a8 (C2 k))]
theorem e45:E1 45 b45:=.G1 @Qm λ_=>.s (.s (.s (.s (.s (.s (.s (.s (.block (.lt λk1=>.l)))))))))
def D5 (a b c:TV):RA X:=bu bS nc [(1,I1),(2,I1)] λd=>lg 6 a λe=>sv λf g=>af 71 [(U 1),d,(S []),I0,c] λc=>rc [rm 6 a e f g] <| sx 6 b e <| ly 6 b λa=>rv [c,a]
def C1 (a:LB X) (b c d:TV):RA X:=lc 6 b 65 λe=>uo .not e λe=>gt e (lg 6 b) λf=>gt e (af 66 [f]) λf=>gt e (fd 0 false 1 f) λf=>gj e (bn 5 f (U 8)) λe=>br e (bs 0 0 dv [] λe=>lg 6 b λf=>af 67 [f,(S [114,101,99])] λf=>jn (λ(g:TV)=>ap false 6 56 0 d g λg=>a [b,c,g]) λa=>br f (lg 6 b λf=>ck 68 [f] λf g=>sx 6 b g <| a f) (lg 6 b λf=>af 67 [f,(S [102,110])] λf=>br f (lg 6 b λf=>ck 69 [f] λf g=>sx 6 b g <| a f) (lg 6 b λf=>cx 70 [f,(I 5)] 6 b <| a e))) (D5 b c d)
def b46 (a:TV):RA X:=bx 0 a λa=>al z131 0 λb=>bs 0 0 dv [] λc=>lp [1,3,4] (λk=>a3 (C1 k)) [a,b,c]
def Ql:cL X:=aT [(28,[1,3,4],λ_ k=>a3 (C1 k))]
theorem e46:E1 46 b46:=.G1 @Ql λ_=>.s (.s (.seq (.block (.lt λk1=>.l)) .l))
def b47 (a b:TV):RA X:=bx 0 b λb=>al gJ 0 λc=>lc 6 b 66 λd=>fd 0 false 1 d λd=>bn 5 d (U 8) λd=>jn (lc 6 b 65 λe=>br e (bs 0 0 dv [] λe=>pa 3 b λf=>lx 3 f 3 c <| ly 3 c λf=>rv [e,f]) (bu gJ kD [] λe=>sx 3 c e <| ly 3 c λc=>rv [a,c])) λa=>br d (lg 6 b λc=>cx 70 [c,(I 5)] 6 b <| a) a
theorem e47:E2 47 b47:=.f2
def J6 (a b c:TV):RA X:=lc 13 c 74 λd=>br d (bu pT Ky [] λd=>pa 10 c λe=>lg 3 e λf=>sv λg h=>sx 9 a d <| rc [rl true false false (some a) true 3 e f g h] <| sx 3 b f <| ly 9 a λd=>ly 3 b λe=>rv [d,e]) (pa 0 c λc=>lg 9 c λc=>bu gJ kD [] λd=>sx 9 a c <| sx 3 b d <| ly 9 a λa=>ly 3 b λb=>rv [a,b])
def BZ (a:LB X) (b c d e f:TV):RA X:=cT 3 (bw f) (bw e) (jn (ba 3 f I1 λg=>a [b,c,d,e,g]) λa=>lc 13 d 74 λe=>uo .not e λe=>br e (ly 13 d λe=>cl 78 [e,(bw f)] λe=>sx 13 d e <| a) a) (J6 b c d)
def b48 (a:TV):RA X:=al pT 0 λb=>al gJ 0 λc=>af 72 [(bw a)] λd=>uo .not d λd=>br d (bu pT Ky [] λd=>bu gJ kD [(0,I1)] λe=>sx 9 b d <| sx 3 c e <| ly 9 b λd=>ly 3 c λe=>rv [d,e]) (ln 25 a λd=>ms 0 3 24 gJ d d λd=>bu pT Ky [(0,(bw a)),(1,d)] λa=>bu bR YJ [(0,a)] λa=>al bR 0 λd=>sx 13 d a <| ly 13 d λa=>cl 73 [a] λa=>sx 13 d a <| lc 13 d 74 λa=>uo .not a λa=>jn (lc 13 d 74 λe=>uo .not e λe=>jn (pq 0 5 d λf=>ln 30 f λf=>lp [2,3,4,6,7] (λk=>a5 (BZ k)) [b,c,d,f,I0]) λb=>br e (lg 13 d λc=>af 76 [c,(S [109,97,105,110])] λc=>cT 3 (bw c) I0 (bu gJ kD [(0,(I 11))] λe=>px 10 d 3 e <| b) (pq 0 5 d λe=>iq 8 2 e (bw c) λe=>bg 3 e I0 λe=>gf e (pa 0 d) λf=>gf e (pa 5 f) λf=>gf e (l1 f) λf=>mf e (bw c) λg=>gf e (ia 8 f g) λf=>gf e (pa 3 f) λf=>gf e (l1 f) λf=>gk e (bn 3 f I0) λe=>br e (ly 13 d λe=>pq 0 5 d λf=>iq 8 1 f c λc=>cl 77 [e,(I 11),c] λc=>sx 13 d c <| b) b)) b) λb=>br a (ly 13 d λa=>cl 75 [a] λa=>sx 13 d a <| b) b)
def Qk:cL X:=aT [(2042,[2,3,4,6,7],λ_ k=>a5 (BZ k))]
theorem e48:E1 48 b48:=.G1 @Qk λ_=>.s (.s (.s (.s (.s (.s (.s (.q (.lt λk1=>.l) .l)))))))
def J5 (a:TV):RA X:=rt a
def BY (a:LB X) (b c d e:TV):RA X:=ba 3 (bw c) I1 λf=>iq 6 3 (bw b) (bw c) λg=>ba 3 f g λf=>cT 3 (bw e) f (jn (λ(f:TV)=>ba 3 (bw e) I1 λg=>iq 6 3 (bw b) e λh=>ba 3 g h λg=>a [b,c,f,g]) λa=>bs 0 1 z3 [(0,(bw e))] λb=>ap false 1 8 0 d b λb=>a b) (J5 d)
def b49 (a b:TV):RA X:=bs 0 0 z3 [] λc=>ba 3 (bw b) I1 λd=>lp [0,1,5,6] (λk=>a4 (BY k)) [a,b,c,d]
def Qj:cL X:=aT [(58,[0,1,5,6],λ_ k=>a4 (BY k))]
theorem e49:E2 49 b49:=.G2 @Qj λ_=>.s (.s (.q (.lt λk1=>.l) .l))
def J4 (a b c:TV):RA X:=lx 16 a 16 b <| ly 16 b λa=>rv [c,a]
def BX (a:LB X) (b c d e f g:TV):RA X:=cT 3 g f (jn (λ(h:TV)=>ba 3 g I1 λi=>a [b,c,d,h,f,i]) λa=>lg 16 b λf=>il 1 (bw d) (bw g) λd=>ck 79 [f,d] λd f=>sx 16 b f <| a d) (J4 b c e)
def b50 (a b:TV):RA X:=bx 0 a λa=>al ek 0 λc=>pl 0 a λd=>af 49 [d,b] λb=>ln 31 (bw b) λd=>lp [2,5,6,7,14,15] (λk=>a6 (BX k)) [a,c,b,Bf,d,I0]
def Qi:cL X:=aT [(122,[2,5,6,7,14,15],λ_ k=>a6 (BX k))]
theorem e50:E2 50 b50:=.G2 @Qi λ_=>.s (.s (.s (.q (.lt λk1=>.l) .l)))
def b51 (a b c:TV):RA X:=bx 0 a λa=>al ek 0 λd=>pq 12 0 a λe=>be 41 e I0 λe=>jn (lx 16 a 16 d <| lr 16 d) λd=>br e (pl 0 a λe=>iq 6 1 e (bw c) λe=>pl 0 a λf=>iq 6 2 f c λc=>bu gJ kD [(0,b),(1,e),(2,c)] λb=>px 12 a 3 b <| d) d
theorem e51:E3 51 b51:=.f3
def J3:RA X:=rt Bt
def xj (a:LB X) (b c d:TV):RA X:=ln 27 (bw b) λe=>cT 3 (bw d) e (jn (ba 3 d I1 λe=>a [b,c,e]) λa=>ia 2 (bw b) (bw d) λe=>lg 2 e λe=>al z156 0 λf=>sx 2 f e <| pl 0 f λe=>bn 5 e (U 7) λe=>mf e (bw b) λg=>mf e (bw d) λh=>gf e (sl 27 g none (some h) none) λg=>gf e (pa 1 f) λh=>gf e (l1 h) λh=>gf e (af 84 [g,h]) λg=>gk e (uo .not g) λe=>mf e (bw b) λb=>mf e (bw c) λc=>gf e (ln 27 c) λc=>mf e (bw d) λd=>gf e (sl 27 b (some c) (some d) none) λb=>gf e (lg 2 f) λc=>gk e (af 85 [b,c]) λb=>br b (rt Bf) a) (J3)
def qi (a b:TV):RA X:=af 82 [(bw b)] λc=>bg 3 b (I 100) λb=>mf b (bw a) λd=>gf b (ln 27 d) λd=>mf b (bw c) λe=>gf b (ln 27 e) λe=>gk b (bl 3 d e) λb=>mf b (bw a) λd=>mf b (bw c) λe=>gf b (ln 27 e) λe=>gf b (sl 27 d none (some e) none) λd=>mf b (bw c) λe=>gf b (af 83 [d,e]) λd=>gk b (uo .not d) λb=>br b (rt Bf) (ln 27 (bw c) λb=>lp [0,4,5] (λk=>a3 (xj k)) [a,c,b])
def si (a:LB X) (b c:TV):RA X:=ba 3 (bw c) (I 6) λd=>ln 27 (bw b) λe=>bl 3 d e λd=>mt d (bw b) λe=>mt d (bw c) λf=>gt d (ba 3 f (I 6)) λf=>gt d (ia 2 e f) λe=>gt d (pa 0 e) λe=>gt d (l1 e) λe=>gj d (be 5 e (U 6)) λd=>br d (ba 3 c I1 λd=>a [b,d]) (qi b c)
def b57 (a:TV):RA X:=lp [0,3] (λk=>a2 (si k)) [a,I0]
def Qh:cL X:=aT [(506,[0,4,5],λ_ k=>a3 (xj k)),(28,[0,3],λ_ k=>a2 (si k))]
theorem e57:E1 57 b57:=.G1 @Qh λ_=>.s (.s (.seq (.block (.lt λk1=>.l)) (.s (.s (.q (.lt λk1=>.l) .l)))))
def F2 (a b:TV):RA X:=af 36 [(bw a),(bw b)] λc=>np 0 (bw a) λd=>pl 1 d λd=>iq 3 2 d (bw b) λd=>af 38 [(bw a),(U 1),d,(bw b)] λd=>np 0 (bw a) λe=>pl 0 e λe=>iq 6 0 e (bw b) λe=>aE 5 e (U 7) (il 1 c I1 λf=>af 86 [(bw a),f] λf=>np 0 a λf=>pl 1 f λf=>iq 3 1 f (bw b) λf=>af 38 [(bw a),(U 8),f,b] λf=>rv []) (aE 5 e (U 8) (af 87 [a,b,c] λf=>rv []) (aE 5 e (U 9) (il 1 (bw c) I0 λf=>af 86 [(bw a),f] λf=>af 38 [(bw a),(U 12),I0,(bw b)] λf=>il 1 (bw c) I1 λg=>af 37 [(bw a),g] λg=>ln 31 (bw c) λg=>be 3 g (I 3) λg=>jn (λ(h:TV)=>af 88 [a,h] λh=>rv []) λh=>br g (af 38 [(bw a),(U 11),I0,b] λg=>af 88 [(bw a),f] λi=>il 1 c (I 2) λi=>af 37 [(bw a),i] λi=>h g) (h f)) (aE 5 e (U 10) (il 1 (bw c) I0 λf=>af 86 [(bw a),f] λf=>af 38 [(bw a),(U 12),I0,(bw b)] λf=>il 1 c I1 λg=>af 37 [(bw a),g] λg=>af 38 [(bw a),(U 11),d,b] λd=>af 88 [a,f] λd=>rv []) (aE 5 e (U 11) (ln 31 (bw c) λd=>aE 3 d I0 (af 38 [a,(U 26),I0,b] λd=>rv []) (il 1 c I0 λd=>af 86 [(bw a),d] λd=>af 38 [a,(U 25),I0,b] λd=>rv [])) (aE 5 e (U 12) (il 1 c I0 λd=>af 86 [(bw a),d] λd=>af 38 [a,(U 23),I0,b] λd=>rv []) (aE 5 e (U 13) (il 1 (bw c) I0 λd=>af 86 [(bw a),d] λd=>np 0 (bw a) λd=>pl 1 d λd=>il 1 c I0 λc=>iq 3 0 d c λc=>kE 3 c I0 (af 38 [a,(U 24),I0,b] λa=>rv []) (rv [])) (rv [])))))))
theorem ua:E2 58 F2:=.f2
def b59 (a:TV):RA X:=nl 21 (bw a) λb=>nl 21 a λa=>ln 78 a λa=>bj 3 a I1 λa=>il 1 b a λa=>rt a
theorem e59:E1 59 b59:=.f1
def b60 (a b c:TV):RA X:=af 59 [(bw a)] λd=>np 2 d λd=>sx 1 d b <| jn (nl 19 a λb=>ba 3 b I1 λb=>np 19 a λd=>sx 1 d b <| rt Bt) λb=>nl 19 (bw a) λd=>np 12 (bw a) λe=>pl 2 e λe=>aE 3 d e (bu JL kD [(0,(U 3))] λd=>af 89 [a,d] λd=>rt Bf) (nl 19 (bw a) λa=>aE 3 a c (rt Bf) b)
theorem e60:E3 60 b60:=.f3
def Bw (a b c d:TV):RA X:=bx 0 c λc=>pl 0 c λe=>aE 5 e (U 2) (pl 1 c λf=>bu cE cM [(0,(U 1)),(1,f)] λf=>af 90 [b,f] λf=>rv []) (aE 5 e (U 3) (pl 1 c λf=>bu cE cM [(0,(U 2)),(1,f)] λf=>af 90 [b,f] λf=>rv []) (aE 5 e (U 4) (pl 1 c λf=>bu cE cM [(0,(U 4)),(3,f)] λf=>af 90 [b,f] λf=>rv []) (aE 5 e (U 6) (bu cE cM [(0,(U 5))] λf=>af 90 [b,f] λf=>rv []) (aE 5 e (U 5) (nl 17 (bw a) λf=>np 9 (bw a) λg=>pl 2 g λg=>pl 1 c λh=>il 1 g h λg=>al cE 0 λh=>ck 91 [f,g] λf g=>sx 4 h f <| lg 4 h λf=>pl 2 c λh=>af 92 [a,b,f,g,h] λf=>rv []) (aE 5 e (U 7) (nl 3 b λf=>pl 1 c λg=>ia 4 f g λf=>lg 4 f λf=>af 90 [(bw b),f] λf=>rv []) (aE 5 e (U 8) (np 3 (bw b) λf=>l1 f λg=>pa 1 c λh=>l1 h λi=>sv λj k=>af 93 [b] λl=>rc [rl true true false none false 1 f g j k,rl true true false none false 1 h i j k] <| ia 4 g i λf=>sx 4 f l <| rv []) (be 5 e (U 9) λf=>jn (λ(g:TV)=>br g (lg 3 c λg=>af 94 [a,b,g,d] λg=>rv []) (be 5 e (U 11) λg=>jn (λ(h:TV)=>br h (lg 3 c λh=>af 95 [a,b,h,d] λd=>rv []) (be 5 e (U 19) λd=>jn (λ(h:TV)=>br h (lg 3 c λh=>af 96 [a,b,h] λh=>rv []) (lg 3 c λc=>af 97 [a,b,c] λa=>rv [])) λa=>br d (a d) (be 5 e (U 20) λb=>br b (a b) (be 5 e (U 25) λb=>br b (a b) (be 5 e (U 26) λb=>a b))))) λa=>br g (a g) (be 5 e (U 12) λb=>br b (a b) (be 5 e (U 13) λb=>br b (a b) (be 5 e (U 14) λb=>a b))))) λa=>br f (a f) (be 5 e (U 10) λb=>a b))))))))
theorem Br:E4 61 Bw:=.f4
def J1 (a:TV):RA X:=rt a
def BW (a:LB X) (b c d:TV):RA X:=ln 9 (bw b) λe=>cT 3 (bw c) e (ix 9 (bw b) (bw c) λe=>be 5 (bw e) (U 35) λf=>jn (λ(g:TV)=>be 5 (bw e) (U 10) λh=>jn (λ(i:TV)=>uo .not (bw i) λj=>mt j (bw e) λk=>gj j (bn 5 k (U 32)) λj=>mt j (bw e) λk=>gj j (bn 5 k (U 9)) λj=>mt j (bw e) λk=>gj j (bn 5 k (U 13)) λj=>mt j (bw e) λe=>gj j (bn 5 e (U 10)) λe=>br e (rt c) (ba 3 c I1 λe=>a [b,e,i])) λa=>br h (a Bf) (a g)) λa=>br f (a Bt) (a d)) (J1 c)
def b62 (a b:TV):RA X:=lp [0,1,5] (λk=>a3 (BW k)) [a,b,Bf]
def Qg:cL X:=aT [(28,[0,1,5],λ_ k=>a3 (BW k))]
theorem e62:E2 62 b62:=.G2 @Qg λ_=>.s (.s (.seq (.block (.lt λk1=>.l)) .l))
def J0 (a b:TV):RA X:=rv [a,b]
def BV (a:LB X) (b c d e f:TV):RA X:=cT 3 (bw f) (bw c) (jn (λ(g:TV) (h:TV)=>ba 3 f I1 λi=>a [b,c,g,h,i]) λa=>ba 3 e I1 λc=>ix 9 (bw b) (bw f) λb=>aE 5 b (U 10) (ba 3 d I1 λb=>a b I1) (a d c)) (J0 d e)
def b63 (a b:TV):RA X:=lp [0,1,6,7,8] (λk=>a5 (BV k)) [a,b,I1,I1,I0]
def Qf:cL X:=aT [(122,[0,1,6,7,8],λ_ k=>a5 (BV k))]
theorem e63:E2 63 b63:=.G2 @Qf λ_=>.s (.s (.s (.q (.lt λk1=>.l) .l)))
def IZ (a:TV):RA X:=bu bS nc [] λb=>sx 5 a b <| ly 5 a λa=>rv [a,I0,(I 4)]
def BU (a:LB X) (b c d e f:TV):RA X:=ln 9 (bw e) λg=>cT 3 (bw f) g (jn (ba 3 f I1 λg=>a [b,c,d,e,g]) λa=>ix 9 (bw b) (bw c) λb=>ix 9 (bw e) (bw f) λg=>aE 5 b g (ba 3 f I1 λb=>sl 9 e (some (bw f)) (some b) none λb=>bu bS nc [(0,(U 7)),(4,b)] λb=>ba 3 c I1 λc=>sx 5 d b <| ly 5 d λb=>rv [b,c,I0]) a) (IZ d)
def D4 (a b c:TV):RA X:=lp [0,1,4,14,15] (λk=>a5 (BU k)) [a,b,c,(S [43,45,42,47,37,60,62,33,61,40,41,123,125,91,93,44,59,58,46]),I0]
def xi (a:LB X) (b c d e f g:TV):RA X:=cT 3 g f (jn (ba 3 g I1 λh=>a [b,c,d,e,f,h]) λa=>ba 3 (bw c) (I 2) λf=>ln 9 (bw b) λh=>bm 3 f h λf=>mt f (bw b) λh=>mt f (bw c) λi=>mt f (bw c) λj=>gt f (ba 3 j (I 2)) λj=>gt f (sl 9 h (some i) (some j) none) λh=>mt f (bw e) λi=>mt f (bw (bw g)) λj=>gt f (ia 1 i j) λi=>gt f (l1 i) λi=>gj f (be 9 h i) λf=>br f (il 1 e (bw g) λe=>bu bS nc [(0,(U 7)),(4,e)] λe=>ba 3 c (I 2) λf=>sx 5 d e <| ly 5 d λe=>rv [e,f,I0]) a) (D4 b c d)
def b64 (a b:TV):RA X:=al bS 0 λc=>ix 9 (bw a) (bw b) λd=>af 98 [d] λd=>jn (ix 9 (bw a) (bw b) λe=>aE 5 e (U 34) (sl 9 a (some (bw b)) none none λe=>af 102 [e] λe=>ey e λf g=>ex 2 (ct 1 (ct 0 e)) λe=>uo .not e λe=>br e (bu bS nc [] λe=>sx 5 c e <| ly 5 c λe=>rv [e,I0,(I 4)]) (bu bS nc [(0,(U 5)),(4,f)] λe=>ba 3 b g λf=>sx 5 c e <| ly 5 c λe=>rv [e,f,I0])) (bs 0 6 z9 [(0,(S [38,38])),(1,(S [124,124])),(2,(S [61,61])),(3,(S [33,61])),(4,(S [60,61])),(5,(S [62,61]))] λe=>ln 68 (bw e) λf=>lp [0,1,4,12,73,74] (λk=>a6 (xi k)) [a,b,c,e,f,I0])) λe=>be 3 d I1 λf=>jn (λ(g:TV)=>br g (af 99 [(bw a),(bw b)] λg=>sl 9 (bw a) (some (bw b)) (some (bw g)) none λh=>bu bS nc [(0,(U 1)),(4,h)] λh=>al bS 0 λi=>sx 5 i h <| ix 9 a b λh=>af 98 [h] λh=>be 3 h (I 2) λh=>jn (lx 5 i 5 c <| ly 5 c λj=>rv [j,g,I0]) λg=>br h (px 0 i 1 (U 2) <| g) (pl 4 i λh=>af 100 [h] λh=>br h (px 0 i 1 (U 6) <| g) g)) (aE 3 d (I 3) (af 101 [a,b] λa=>ey a λb g=>ex 2 (ct 1 (ct 0 a)) λa=>sx 5 c b <| ly 5 c λb=>rv [b,g,a]) e)) λa=>br f (a f) (be 3 d (I 2) λb=>a b)
def Qe:cL X:=aT [(1018,[0,1,4,14,15],λ_ k=>a5 (BU k)),(250,[0,1,4,12,73,74],λ_ k=>a6 (xi k))]
theorem e64:E2 64 b64:=.G2 @Qe λ_=>.s (.s (.s (.s (.q (.lt λk1=>.l) (.s (.q (.lt λk1=>.l) .l))))))
def b65 (a:TV):RA X:=bx 0 a λa=>pq 3 0 a λa=>bn 41 a I0 λa=>rt a
theorem e65:E1 65 b65:=.f1
def b66 (a:TV):RA X:=bx 0 a λa=>al bS 0 λb=>pl 0 a λc=>pl 1 a λa=>ia 5 c a λa=>lx 5 a 5 b <| lr 5 b
theorem e66:E1 66 b66:=.f1
def b67 (a b:TV):RA X:=bx 0 a λa=>lc 6 a 66 λc=>al bS 0 λd=>sx 5 d c <| lc 6 a 65 λa=>uo .not a λa=>gt a (pa 0 d) λc=>gt a (l1 c) λc=>gt a (be 5 c (U 6)) λc=>mt a (bw c) λc=>gf c (pa 0 d) λe=>gf c (l1 e) λe=>gf c (be 5 e (U 7)) λe=>gj a (pk c Bt e) λa=>gt a (pa 4 d) λc=>gt a (l1 c) λc=>mt a (bw b) λb=>gj a (be 9 c b) λa=>rt a
theorem e67:E2 67 b67:=.f2
def D3 (a b c d e:TV):RA X:=lg 5 c λc=>pl 4 d λd=>lg 6 a λf=>sv λg h=>af 71 [(U 2),c,d,I0,e] λc=>rc [rm 6 a f g h] <| cx 107 [f,(S [125])] 6 b <| ly 6 b λa=>rv [c,a]
def BT (a:LB X) (b c d e f:TV):RA X:=lc 6 b 65 λg=>uo .not g λg=>gt g (lg 6 b) λh=>gt g (af 67 [h,(S [125])]) λh=>gj g (uo .not h) λg=>br g (bs 0 0 dv [] λg=>lg 6 b λg=>ck 106 [g,(U 3)] λg h=>sx 6 b h <| lg 6 b λh=>cx 103 [h,(S [59])] 6 b <| ap false 6 56 0 f g λg=>a [b,c,d,e,g]) (D3 b c d e f)
def b68 (a:TV):RA X:=bx 0 a λa=>al z131 0 λb=>lc 6 a 66 λc=>al bS 0 λd=>sx 5 d c <| lg 6 a λc=>cx 103 [c,(S [114,101,99])] 6 a <| lg 6 a λc=>ck 104 [c,(U 2)] λc e=>al bS 0 λf=>sx 5 f c <| sx 6 a e <| lg 6 a λc=>cx 105 [c,(S [123])] 6 a <| bs 0 0 dv [] λc=>lp [1,3,4,5,6] (λk=>a5 (BT k)) [a,b,d,f,c]
def Qd:cL X:=aT [(508,[1,3,4,5,6],λ_ k=>a5 (BT k))]
theorem e68:E1 68 b68:=.G1 @Qd λ_=>.s (.s (.s (.s (.s (.s (.seq (.block (.lt λk1=>.l)) .l))))))
def D2 (a b c d e f:TV):RA X:=lg 6 a λg=>cx 107 [g,(S [41])] 6 a <| bu dv sV [(0,(U 14))] λg=>bs 0 1 dv [(0,g)] λg=>lg 6 a λh=>af 67 [h,(S [58])] λh=>jn (λ(i:TV)=>lg 6 a λj=>ck 109 [j] λj k=>sx 6 a k <| lg 5 c λk=>pa 4 d λd=>l1 d λl=>lg 6 a λm=>sv λn o=>af 110 [e,i] λe=>rc [rm 5 c k n o,rn d l n o,rm 6 a m n o] <| sv λn o=>af 110 [e,j] λe=>rc [rm 5 c k n o,rn d l n o,rm 6 a m n o] <| sv λn o=>af 71 [(U 4),k,l,f,e] λc=>rc [rm 6 a m n o] <| sx 6 b m <| ly 6 b λb=>rv [c,b]) λb=>br h (lg 6 a λc=>af 103 [c,(S [58])] λc=>ck 108 [c] λc d=>sx 6 a d <| b c) (b g)
def BS (a:LB X) (b c d e f g:TV):RA X:=lc 6 b 65 λh=>uo .not h λh=>gt h (lg 6 b) λi=>gt h (af 67 [i,(S [41])]) λi=>gj h (uo .not i) λh=>br h (bg 2 (bw g) I0 λh=>jn (bs 0 0 dv [] λi=>lg 6 b λi=>ck 106 [i,(U 5)] λi j=>sx 6 b j <| ap false 6 56 0 f i λi=>ba 2 g I1 λj=>a [b,c,d,e,i,j]) λa=>br h (lg 6 b λh=>cx 103 [h,(S [44])] 6 b <| a) a) (D2 b c d e f g)
def b69 (a:TV):RA X:=bx 0 a λa=>al z131 0 λb=>lc 6 a 66 λc=>al bS 0 λd=>sx 5 d c <| lg 6 a λc=>cx 103 [c,(S [102,110])] 6 a <| lg 6 a λc=>ck 104 [c,(U 1)] λc e=>al bS 0 λf=>sx 5 f c <| sx 6 a e <| lg 6 a λc=>cx 105 [c,(S [40])] 6 a <| bs 0 0 dv [] λc=>lp [1,3,4,5,6,7] (λk=>a6 (BS k)) [a,b,d,f,c,I0]
def Qc:cL X:=aT [(1020,[1,3,4,5,6,7],λ_ k=>a6 (BS k))]
theorem e69:E1 69 b69:=.G1 @Qc λ_=>.s (.s (.s (.s (.s (.s (.s (.seq (.block (.lt λk1=>.l)) .l)))))))
def b70 (a b:TV):RA X:=bx 0 a λa=>al z131 0 λc=>lc 6 a 65 λd=>uo .not d λd=>jn (lx 6 a 6 c <| lr 6 c) λc=>br d (lg 6 a λd=>lg 6 a λe=>sv λf g=>af 66 [d] λd=>rc [rm 6 a e f g] <| fd 1 false 1 d λd=>af 66 [e] λe=>fd 2 false 1 e λe=>bu gJ kD [(0,b),(1,d),(2,e)] λb=>px 3 a 3 b <| c) c
theorem e70:E2 70 b70:=.f2
def b71 (a b c d e:TV):RA X:=bx 0 b λb=>pl 1 b λf=>pl 2 b λb=>ln 25 (bw e) λg=>bu dv sV [(0,a),(1,f),(2,b),(3,g),(4,d),(5,c)] λa=>bs 0 1 dv [(0,a)] λa=>ap false 6 56 0 a e λa=>rt a
theorem e71:E5 71 b71:=.f5
def IY:RA X:=rt Bt
def BR (a:LB X) (b c d:TV):RA X:=cT 3 d c (jn (ba 3 d I1 λe=>a [b,c,e]) λa=>ia 6 (bw b) (bw (bw d)) λc=>lc 6 c 112 λc=>uo .not c λc=>mf c (bw b) λb=>mf c (bw (bw d)) λd=>gf c (af 113 [b,d]) λb=>gk c (uo .not b) λb=>br b (rt Bf) a) (IY)
def b72 (a:TV):RA X:=af 111 [(bw a)] λb=>uo .not b λb=>mf b (bw a) λc=>gf b (ia 6 c I0) λc=>gf b (pa 0 c) λc=>gf b (l1 c) λc=>gk b (bn 5 c (U 1)) λb=>br b (rt Bf) (ln 25 (bw a) λb=>lp [0,15,16] (λk=>a3 (BR k)) [a,b,I0])
def Qb:cL X:=aT [(58,[0,15,16],λ_ k=>a3 (BR k))]
theorem e72:E1 72 b72:=.G1 @Qb λ_=>.s (.s (.q (.lt λk1=>.l) .l))
variable {X:CX}
def IX (a b:TV):RA X:=ly 13 a λa=>sx 13 b a <| lr 13 b
def IW (a:LB X) (b c d e f g:TV):RA X:=ba 3 g I1 λg=>a [b,c,d,e,f,g]
def IU (a:LB X) (b c d e f g h i j:TV):RA X:=pp 0 3 b λk=>lt false 1 k λk=>il 1 (bw e) f λf=>iq 6 5 (bw d) f λf=>ln 31 g λg=>bu Bz kD [(0,f),(1,h),(2,g)] λf=>bs 0 1 Bz [(0,f)] λf=>ap false 3 32 0 k f λf=>pp 0 3 b λg=>sx 1 g f <| IW a b c d e i j
def BQ (a b:LB X) (c d e f g h i j k l m:TV):RA X:=cT 3 m l (jn (ba 3 m I1 λn=>b [c,d,e,f,g,h,i,j,k,l,n]) λb=>bh 3 (bw (bw m)) (I 100) λl=>jn (sl 31 (bw h) none (some (bw (bw m))) none λn=>il 1 (bw h) (bw (bw m)) λo=>iq 6 5 (bw e) o λo=>af 115 [(bw e),n,o] λn=>jn (lc 13 c 74 λo=>br o (ly 13 c λo=>sx 13 d o <| lr 13 d) (ly 13 c λo=>il 1 (bw h) (bw (bw m)) λp=>ba 3 p I1 λp=>al bR 0 λq=>cl 118 [o,p] λo=>ey o λo p=>sx 13 q p <| ly 13 q λp=>il 1 (bw h) (bw (bw m)) λq=>bu gJ kD [(0,(bw o))] λr=>cl 116 [p,q,r] λp=>sx 13 c p <| pp 0 4 c λp=>lt false 1 p λp=>il 1 (bw h) (bw m) λq=>iq 6 5 (bw e) q λq=>bu FI mE [(0,q),(1,o)] λo=>bs 0 1 FI [(0,o)] λo=>ap false 2 24 0 p o λo=>pp 0 4 c λp=>sx 1 p o <| b)) λb=>br n (ly 13 c λn=>il 1 (bw h) (bw (bw m)) λo=>cl 77 [n,(I 7),o] λn=>sx 13 c n <| b) b) λb=>br l (ly 13 c λl=>il 1 (bw h) (bw (bw m)) λm=>cl 77 [l,(I 13),m] λl=>sx 13 c l <| b) b) (IU a c d e f g h i j k)
def xh (a:LB X) (b c d e f g:TV):RA X:=cT 3 g f (il 1 (bw e) (bw (bw g)) λh=>af 49 [(bw d),h] λh=>pq 0 4 b λi=>ln 29 i λi=>ln 31 (bw h) λj=>lp [1,2,3,4,6,7,8,77,78,92,93] (λk=>JD (BQ a k)) [b,c,d,e,(bw g),h,i,f,g,j,I0]) (IX b c)
def IT (a b c d:TV):RA X:=ln 31 (bw d) λe=>af 117 [e] λe=>pp 0 2 a λf=>sx 1 f e <| ln 31 (bw d) λe=>lp [1,2,3,4,77,78] (λk=>a6 (xh k)) [a,b,c,d,e,I0]
def BP (a:LB X) (b c d e f g:TV):RA X:=cT 3 g f (jn (ba 3 g I1 λh=>a [b,c,d,e,f,h]) λa=>bh 3 (bw (bw g)) (I 100) λf=>jn (sl 31 (bw e) none (some (bw (bw g))) none λh=>il 1 (bw e) (bw (bw g)) λi=>iq 6 5 (bw d) i λi=>af 115 [(bw d),h,i] λh=>jn (ly 13 b λi=>il 1 (bw e) (bw (bw g)) λj=>bu gJ kD [(1,(bw (bw g)))] λk=>cl 116 [i,j,k] λi=>sx 13 b i <| pa 9 b λi=>lt false 1 i λi=>il 1 (bw e) (bw g) λj=>iq 6 5 (bw d) j λj=>bs 0 1 z9 [(0,j)] λj=>ap false 1 16 0 i j λi=>px 9 b 1 i <| a) λa=>br h (ly 13 b λh=>il 1 (bw e) (bw (bw g)) λi=>cl 77 [h,(I 7),i] λh=>sx 13 b h <| a) a) λa=>br f (ly 13 b λf=>il 1 (bw e) (bw (bw g)) λg=>cl 77 [f,(I 13),g] λf=>sx 13 b f <| a) a) (IT b c d e)
def b73 (a:TV):RA X:=bx 0 a λa=>al bR 0 λb=>pq 0 0 a λc=>af 114 [(bw c),(U 2)] λd=>ln 31 (bw d) λe=>lp [1,2,3,4,18,19] (λk=>a6 (BP k)) [a,b,c,d,e,I0]
def Qa:cL X:=aT [(1037114,[1,2,3,4,6,7,8,77,78,92,93],λx k=>JD (BQ (QG x 0) k)),(506,[1,2,3,4,77,78],λ_ k=>a6 (xh k)),(122,[1,2,3,4,18,19],λ_ k=>a6 (BP k))]
theorem e73:E1 73 b73:=.G1 @Qa λ_=>.s (.s (.s (.q (.lt λk1=>.l) (.s (.q (.lt λk1=>(.s (.s (.seq (.block (.s (.s (.s (.q (.lt λk2=>.l) .l))))) .l)))) .l)))))
def b74 (a:TV):RA X:=bx 0 a λa=>pq 10 0 a λa=>bn 41 a I0 λa=>rt a
theorem e74:E1 74 b74:=.f1
def IS (a b:TV):RA X:=ly 13 a λa=>sx 13 b a <| lr 13 b
def IQ (a:LB X) (b c d e f g:TV):RA X:=ba 3 g I1 λg=>a [b,c,d,e,f,g]
def IP (a:LB X) (b c d e f g h i j k:TV):RA X:=lc 13 b 74 λl=>br l (ly 13 b λl=>sx 13 c l <| lr 13 c) (ly 13 b λl=>il 1 h (bw i) λh=>al bR 0 λm=>cl 118 [l,h] λh=>ey h λh l=>sx 13 m l <| ly 13 m λl=>bu gJ kD [(0,(bw h)),(1,f)] λf=>cl 116 [l,(bw g),f] λf=>sx 13 b f <| pp 0 5 b λf=>lt false 1 f λf=>iq 6 5 (bw d) (bw g) λl=>bu qL Aq [(0,l),(1,g),(2,i),(3,h)] λg=>bs 0 1 qL [(0,g)] λg=>ap false 8 72 0 f g λf=>pp 0 5 b λg=>sx 1 g f <| IQ a b c d e j k)
def xf (a b:LB X) (c d e f g h i j k l m:TV):RA X:=cT 3 (bw k) (bw j) (jn (ba 3 k I1 λn=>b [c,d,e,f,g,h,i,j,n,l,m]) λb=>bh 3 (bw k) (I 20) λn=>jn (sl 31 (bw i) none (some (bw k)) none λo=>il 1 (bw i) (bw k) λp=>iq 6 5 (bw e) p λp=>af 115 [(bw e),o,p] λo=>jn (lc 13 c 74 λp=>br p (ly 13 c λp=>sx 13 d p <| lr 13 d) (ly 13 c λp=>il 1 (bw i) (bw k) λq=>ba 3 q I1 λq=>al bR 0 λr=>cl 118 [p,q] λp=>ey p λp q=>sx 13 r q <| ly 13 r λq=>il 1 (bw i) (bw k) λr=>bu gJ kD [(0,p)] λp=>cl 116 [q,r,p] λp=>sx 13 c p <| b)) λb=>br o (ly 13 c λo=>il 1 (bw i) (bw k) λp=>cl 77 [o,(I 7),p] λo=>sx 13 c o <| b) b) λb=>br n (ly 13 c λn=>il 1 (bw i) (bw k) λk=>cl 77 [n,(I 13),k] λk=>sx 13 c k <| b) b) (IP a c d e f g h i j l m)
def BO (a:LB X) (b c d e f g:TV):RA X:=cT 3 g f (il 1 (bw e) (bw (bw g)) λh=>bh 3 (bw (bw g)) (I 100) λi=>jn (sl 31 (bw e) none (some (bw (bw g))) none λj=>iq 6 5 (bw d) (bw h) λl=>af 115 [(bw d),j,l] λj=>mf j (bw d) λl=>mf j (bw h) λm=>gf j (ia 6 l m) λl=>gf j (pa 5 l) λl=>gf j (l1 l) λl=>gf j (af 119 [l]) λl=>gk j (bg 3 l I0) λj=>jn (af 49 [(bw d),(bw h)] λl=>ln 31 (bw l) λm=>bj 3 m (I 2) λm=>lp [1,2,3,4,5,6,7,8,9,20,21] (λk=>JD (xf a k)) [b,c,d,e,(bw g),h,l,m,I0,f,g]) λa=>br j (ly 13 b λd=>cl 77 [d,(I 7),(bw h)] λd=>sx 13 b d <| a) a) λa=>br i (ly 13 b λd=>cl 77 [d,(I 13),(bw h)] λd=>sx 13 b d <| a) a) (IS b c)
def b75 (a:TV):RA X:=bx 0 a λa=>al bR 0 λb=>pq 0 0 a λc=>af 114 [(bw c),(U 4)] λd=>ln 31 (bw d) λe=>lp [1,2,3,4,20,21] (λk=>a6 (BO k)) [a,b,c,d,e,I0]
def Q9:cL X:=aT [(2005498,[1,2,3,4,5,6,7,8,9,20,21],λx k=>JD (xf (QG x 0) k)),(122,[1,2,3,4,20,21],λ_ k=>a6 (BO k))]
theorem e75:E1 75 b75:=.G1 @Q9 λ_=>.s (.s (.s (.q (.lt λk1=>(.s (.s (.seq (.block (.s (.s (.s (.s (.s (.s (.q (.lt λk2=>.l) .l)))))))) .l)))) .l)))
def IM:RA X:=rt (I (-1))
def BN (a:LB X) (b c d e:TV):RA X:=cT 3 e d (jn (ba 3 e I1 λf=>a [b,c,d,f]) λa=>pq 0 5 c λc=>iq 8 0 c (bw (bw e)) λc=>aE 9 c (bw b) (rt (bw e)) a) (IM)
def b76 (a b:TV):RA X:=bx 0 a λa=>pq 0 5 a λc=>ln 30 c λc=>lp [1,2,9,10] (λk=>a4 (BN k)) [b,a,c,I0]
def Q8:cL X:=aT [(26,[1,2,9,10],λ_ k=>a4 (BN k))]
theorem e76:E2 76 b76:=.G2 @Q8 λ_=>.s (.q (.lt λk1=>.l) .l)
def b77 (a b c:TV):RA X:=bx 0 a λa=>al bR 0 λd=>lc 13 a 74 λe=>uo .not e λe=>jn (ly 13 a λf=>sx 13 d f <| lr 13 d) λd=>br e (pq 0 0 a λe=>iq 6 1 e (bw c) λe=>pq 0 0 a λf=>iq 6 2 f c λc=>bu gJ kD [(0,b),(1,e),(2,c)] λb=>px 10 a 3 b <| d) d
theorem e77:E3 77 b77:=.f3
def IL (a b c d e f:TV):RA X:=ly 13 b λg=>ba 3 e I1 λe=>il 1 d e λd=>cl 121 [g,(bw a),f,d] λd=>sx 13 b d <| bs 0 0 qL [] λd=>pq 0 5 b λe=>ap false 8 72 1 d e λd=>pq 0 8 b λe=>ln 33 e λe=>iq 8 6 (bw d) a λf=>bj 3 e f λe=>ip 8 7 (bw d) (bw a) λa=>sx 1 a e <| fz d λa=>pp 0 5 b λd=>sx 1 d a <| ly 13 b λa=>sx 13 c a <| lr 13 c
def BM (a:LB X) (b c d e f g h:TV):RA X:=cT 3 (bw h) (bw f) (jn (λ(i:TV)=>ba 3 h I1 λj=>a [b,c,d,e,f,i,j]) λa=>ly 13 c λi=>pq 0 0 c λj=>il 1 (bw e) (bw h) λk=>iq 6 5 j k λj=>pq 0 1 c λk=>il 1 (bw e) (bw h) λh=>iq 3 0 k h λh=>ba 3 (bw f) I1 λk=>il 1 (bw e) k λk=>pq 0 8 c λl=>ln 33 l λl=>cl 120 [i,(bw b),g,j,h,k,l] λh=>ey h λh i=>sx 13 c i <| a h) (IL b c d e f g)
def b78 (a b:TV):RA X:=bx 0 a λa=>al bR 0 λc=>bs 0 0 qL [] λd=>pq 0 5 a λe=>ap false 8 72 1 d e λd=>pq 0 6 a λe=>ln 31 e λe=>ip 8 4 (bw d) (bw b) λf=>sx 1 f e <| pq 0 8 a λe=>ln 33 e λe=>ip 8 6 (bw d) (bw b) λf=>sx 1 f e <| fz d λd=>pp 0 5 a λe=>sx 1 e d <| pq 0 0 a λe=>iq 8 1 (bw d) (bw b) λd=>af 49 [e,d] λd=>ln 31 (bw d) λe=>bj 3 e (I 2) λe=>bs 0 0 FH [] λf=>lp [1,2,4,6,7,8,9] (λk=>a7 (BM k)) [b,a,c,d,e,f,I0]
def Q7:cL X:=aT [(8186,[1,2,4,6,7,8,9],λ_ k=>a7 (BM k))]
theorem e78:E2 78 b78:=.G2 @Q7 λ_=>.s (.s (.s (.s (.s (.s (.s (.s (.s (.q (.lt λk1=>.l) .l)))))))))
def IK (a b c:TV):RA X:=lg 16 a λd=>il 1 c I0 λc=>ck 122 [d,c] λc c=>sx 16 a c <| lx 16 a 16 b <| ly 16 b λa=>rv [Bf,a]
def IJ (a b c:TV):RA X:=lx 16 a 16 b <| ly 16 b λa=>rv [c,a]
def xe (a:LB X) (b c d e f:TV):RA X:=ln 31 (bw d) λg=>cT 3 (bw f) g (jn (λ(g:TV)=>ba 3 f I1 λh=>a [b,c,d,g,h]) λa=>lg 16 b λg=>il 1 (bw d) (bw f) λd=>al ek 0 λf=>ck 50 [g,d] λd g=>sx 16 f g <| gg e true (mv (bw d)) λd=>pk e d Bf λd=>lx 16 f 16 b <| a d) (IJ b c e)
def b79 (a b:TV):RA X:=bx 0 a λa=>al ek 0 λc=>pq 12 0 a λd=>kE 41 d I0 (lx 16 a 16 c <| ly 16 c λd=>rv [Bf,d]) (pl 0 a λd=>af 49 [d,(bw b)] λd=>pl 0 a λe=>iq 6 0 e (bw b) λe=>aE 5 e (U 7) (lg 16 a λf=>il 1 (bw d) I1 λg=>al ek 0 λh=>ck 122 [f,g] λf g=>sx 16 h g <| lg 16 h λg=>lg 16 h λi=>pl 1 h λj=>iq 3 0 j b λj=>ia 1 d I1 λl=>l1 l λm=>sv λn o=>af 124 [i,f,j] λf=>rc [rm 16 h g n o,rn l m n o] <| cx 123 [g,f,m] 16 c <| ly 16 c λf=>rv [Bf,f]) (aE 5 e (U 8) (lg 16 a λf=>il 1 (bw d) I0 λg=>al ek 0 λh=>ck 122 [f,g] λf g=>sx 16 h g <| lg 16 h λg=>il 1 (bw d) I1 λi=>ck 122 [g,i] λg i=>sx 16 h i <| pq 12 0 h λi=>be 41 i I0 λi=>gt i (pa 0 h) λj=>gt i (l1 j) λj=>mt i (bw d) λl=>gt i (ia 1 l I0) λl=>gt i (l1 l) λl=>gt i (ia 6 j l) λj=>gt i (pa 0 j) λj=>gt i (l1 j) λj=>gj i (be 5 j (U 28)) λi=>gt i (pa 1 h) λj=>gt i (l1 j) λj=>mt i (bw d) λl=>gt i (ia 1 l I0) λl=>gt i (l1 l) λl=>gt i (ba 3 l I1) λl=>gt i (ia 3 j l) λj=>gt i (pa 0 j) λj=>gt i (l1 j) λj=>gj i (be 3 j (I 3)) λi=>jn (lg 16 h λj=>lg 16 h λl=>ia 1 d I1 λm=>l1 m λp=>sv λn o=>af 124 [l,g,f] λf=>rc [rm 16 h j n o,rn m p n o] <| cx 123 [j,f,p] 16 c <| ly 16 c λf=>rv [Bf,f]) λf=>br i (lg 16 h λg=>il 1 (bw d) I0 λi=>cx 51 [g,(I 9),i] 16 h <| f) f) (be 5 e (U 9) λf=>jn (λ(g:TV)=>br g (lg 16 a λg=>il 1 (bw d) I0 λh=>al ek 0 λi=>ck 122 [g,h] λg h=>sx 16 i h <| lg 16 i λh=>be 3 g (I 2) λg=>il 1 (bw d) I0 λi=>cx 123 [h,g,i] 16 a <| ln 31 (bw d) λg=>be 3 g (I 3) λg=>lp [2,5,6,14,15] (λk=>a5 (xe k)) [a,c,d,g,I1]) (aE 5 e (U 11) (ln 31 (bw d) λg=>aE 3 g I0 (lg 16 a λg=>pl 15 a λh=>be 3 h I0 λh=>cx 123 [g,h,b] 16 c <| ly 16 c λb=>rv [Bt,b]) (lg 16 a λb=>il 1 (bw d) I0 λg=>al ek 0 λh=>ck 122 [b,g] λb g=>sx 16 h g <| lg 16 h λg=>pl 15 a λi=>bn 3 i I0 λi=>gt i (lg 16 h) λj=>mt i (bw b) λb=>gt i (pa 15 a) λl=>gt i (l1 l) λl=>ia 1 d I0 λm=>l1 m λp=>gj i (λk=>sv λn o=>af 124 [j,b,l] λb=>rc [rm 16 h g n o,rn m p n o] (k b)) λb=>cx 123 [g,b,p] 16 c <| ly 16 c λb=>rv [Bt,b])) (aE 5 e (U 12) (lg 16 a λb=>il 1 (bw d) I0 λg=>al ek 0 λh=>ck 122 [b,g] λb g=>sx 16 h g <| lg 16 h λg=>bn 3 b I0 λb=>il 1 d I0 λh=>cx 123 [g,b,h] 16 c <| ly 16 c λb=>rv [Bf,b]) (IK a c d)))) λa=>br f (a f) (be 5 e (U 10) λb=>a b))))
def Q6:cL X:=aT [(503738,[2,5,6,14,15],λ_ k=>a5 (xe k))]
theorem e79:E2 79 b79:=.G2 @Q6 λ_=>.s (.s (.s (.q (.s (.cond .l (.s (.cond .l (.s (.cond (.s (.s (.s (.q (.lt λk1=>.l) .l)))) .l)))))) .l)))
def II (a:TV):RA X:=rt a
def xd (a:LB X) (b c d:TV):RA X:=cT 3 d c (jn (λ(e:TV)=>ba 3 d I1 λf=>a [e,c,f]) λa=>bu z156 mE [(0,(U 6)),(1,(bw d))] λc=>bs 0 1 z156 [(0,c)] λc=>ap false 2 16 0 b c λc=>a c) (II b)
def IG (a b:TV):RA X:=bi .max #[3,3] 3 #[false,true] [a,I0] λa=>bi .min #[3,3] 3 #[false,true] [a,(I 100)] λa=>lp [3,18,19] (λk=>a3 (xd k)) [b,a,I0]
def BL (a:LB X) (b c d:TV):RA X:=cT 3 d (I 6) (jn (λ(e:TV)=>ba 3 d I1 λf=>a [b,e,f]) λa=>cv 3 5 (bw d) λd=>bu z156 mE [(0,d)] λd=>bs 0 1 z156 [(0,d)] λd=>ap false 2 16 0 c d λd=>a d) (IG b c)
def b82 (a:TV):RA X:=lp [0,3,6] (λk=>a3 (BL k)) [a,N0,I0]
def Q5:cL X:=aT [(122,[3,18,19],λ_ k=>a3 (xd k)),(58,[0,3,6],λ_ k=>a3 (BL k))]
theorem e82:E1 82 b82:=.G1 @Q5 λ_=>.s (.s (.q (.lt λk1=>.l) (.q (.lt λk1=>.l) .l)))
def IE:RA X:=rt Bt
def BJ (a:LB X) (b c d e:TV):RA X:=cT 3 e d (jn (ba 3 e I1 λf=>a [b,c,d,f]) λa=>ia 2 (bw b) (bw (bw e)) λb=>lg 2 b λb=>ia 2 (bw c) (bw e) λc=>lg 2 c λc=>kE 156 b c (rt Bf) a) (IE)
def JB (a b:TV):RA X:=ln 27 (bw a) λc=>ln 27 (bw b) λd=>kE 3 c d (rt Bf) (ln 27 (bw a) λc=>lp [0,1,12,13] (λk=>a4 (BJ k)) [a,b,c,I0])
def Q4:cL X:=aT [(58,[0,1,12,13],λ_ k=>a4 (BJ k))]
theorem e83:E2 83 JB:=.G2 @Q4 λ_=>.s (.s (.q (.lt λk1=>.l) .l))
def Ti (a b:TV):RA X:=bg 3 (bw b) I0 λc=>mt c (bw b) λd=>mt c (bw a) λa=>gt c (ln 27 a) λa=>gj c (bl 3 d a) λa=>mt a (bw b) λb=>gj a (bn 3 b (I 5)) λa=>rt a
theorem AP:E2 84 Ti:=.f2
def b85 (a b:TV):RA X:=bx 0 b λb=>lg 2 b λb=>af 127 [a,b] λa=>bh 3 a I0 λa=>rt a
theorem Bq:E2 85 b85:=.f2
def ID (a b c d:TV):RA X:=lg 6 c λc=>lg 3 d λd=>ck 128 [(bw a),c,d] λc d=>af 38 [a,c,d,b] λa=>rv []
def xc (a:LB X) (b c d e f g h:TV):RA X:=cT 3 h g (jn (ba 3 h I1 λi=>a [b,c,d,e,f,g,i]) λa=>il 1 f h λf=>af 86 [(bw b),f] λf=>a) (ID b c d e)
def b86 (a b:TV):RA X:=np 0 (bw a) λc=>pl 0 c λc=>ia 6 c (bw b) λc=>lg 6 c λc=>al dv 0 λd=>sx 6 d c <| np 0 (bw a) λc=>pl 1 c λc=>ia 3 c (bw b) λc=>lg 3 c λc=>al gJ 0 λe=>sx 3 e c <| af 36 [(bw a),(bw b)] λc=>jn (λ(f:TV)=>ln 31 f λg=>lp [0,1,4,5,72,73,74] (λk=>a7 (xc k)) [a,b,d,e,f,g,I0]) λe=>pl 0 d λf=>aE 5 f (U 32) (sl 31 c (some I1) none none λf=>e f) (pl 0 d λf=>be 5 f (U 31) λf=>gt f (pa 4 d) λg=>gt f (l1 g) λg=>gt f (be 2 g (I 14)) λg=>mt f (bw g) λg=>gf g (pa 4 d) λh=>gf g (l1 h) λh=>gf g (be 2 h (I 15)) λh=>gj f (pk g Bt h) λf=>br f (il 1 (bw c) I0 λf=>af 86 [(bw a),f] λf=>pl 4 d λd=>be 2 d (I 15) λd=>jn (λ(f:TV)=>af 38 [(bw a),f,I0,b] λb=>il 1 c I1 λf=>af 86 [(bw a),f] λf=>af 88 [a,b] λa=>rv []) λa=>br d (a (U 14)) (a (U 13))) (e c))
def Q3:cL X:=aT [(250,[0,1,4,5,72,73,74],λ_ k=>a7 (xc k))]
theorem e86:E2 86 b86:=.G2 @Q3 λ_=>.s (.s (.s (.s (.q (.lt λk1=>.l) .l))))
def IC (a b c:TV):RA X:=il 1 (bw c) I1 λd=>af 86 [(bw a),d] λd=>np 0 (bw a) λd=>pl 1 d λd=>il 1 (bw c) I0 λe=>iq 3 1 d e λd=>np 0 (bw a) λe=>pl 0 e λe=>il 1 (bw c) I0 λf=>iq 6 0 e f λe=>aE 5 e (U 26) (af 38 [a,(U 8),d,b] λb=>rv []) (aE 5 e (U 28) (il 1 c I0 λb=>af 38 [a,(U 16),I0,b] λb=>rv []) (aE 5 e (U 29) (il 1 c I0 λb=>af 38 [a,(U 18),d,b] λa=>rv []) (rv [])))
def BI (a:LB X) (b c d e f g:TV):RA X:=cT 3 g f (jn (ba 3 g I1 λh=>a [b,c,d,e,f,h]) λa=>il 1 e g λe=>af 86 [(bw b),e] λe=>a) (IC b c d)
def b87 (a b c:TV):RA X:=il 1 (bw c) I0 λd=>af 36 [(bw a),d] λd=>ln 31 d λe=>lp [0,1,2,15,16,17] (λk=>a6 (BI k)) [a,b,c,d,e,I0]
def Q2:cL X:=aT [(26,[0,1,2,15,16,17],λ_ k=>a6 (BI k))]
theorem e87:E3 87 b87:=.G3 @Q2 λ_=>.s (.q (.lt λk1=>.l) .l)
def b88 (a b:TV):RA X:=np 9 (bw a) λc=>pa 0 c λc=>l1 c λd=>np 12 (bw a) λe=>l1 e λf=>ba 3 f b λb=>sv λg h=>af 39 [a] λa=>rc [rn c d g h,rn e f g h] <| ip 3 1 d b λb=>sx 1 b a <| rv []
theorem e88:E2 88 b88:=.f2
def b89 (a b:TV):RA X:=bx 0 b λb=>nl 22 (bw a) λc=>uo .not c λc=>br c (lg 3 b λc=>np 22 (bw a) λd=>sv λe f=>sx 1 d Bt <| rc [rl true false false (some d) true 3 b c e f] <| np 23 a λa=>sx 3 a c <| rv []) (rv [])
theorem e89:E2 89 b89:=.f2
def b90 (a b:TV):RA X:=bx 0 b λb=>np 4 a λc=>lt false 1 c λc=>lg 4 b λb=>bs 0 1 cE [(0,b)] λb=>ap true 4 32 2 c b λb=>np 4 (bw a) λa=>sx 1 a b <| rv []
theorem e90:E2 90 b90:=.f2
def WH (a b:TV):RA X:=al cE 0 λc=>jn (bu z164 cM [(0,(U 3)),(2,b)] λd=>ck 129 [a,d] λd e=>sx 4 c d <| ly 4 c λd=>rv [d,e]) λd=>aE 75 (bw a) Vn (bu cE cM [] λa=>sx 4 c a <| ly 4 c λa=>rv [a,Bf]) (aE 9 (bw b) (S []) (bu cE cM [(0,(U 3))] λa=>sx 4 c a <| ly 4 c λa=>rv [a,Bt]) d)
theorem e91:E2 91 WH:=.f2
def b92 (a b c d e:TV):RA X:=bx 0 c λc=>uo .not d λd=>br d (af 130 [a,(U 4),e] λa=>rv []) (lg 4 c λa=>af 90 [b,a] λa=>rv [])
theorem e92:E5 92 b92:=.f5
def b93 (a:TV):RA X:=al cE 0 λb=>nl 4 (bw a) λc=>ln 79 c λc=>bj 3 c I1 λc=>nl 4 (bw a) λd=>ia 4 d (bw c) λd=>lg 4 d λd=>al cE 0 λe=>sx 4 e d <| nl 4 a λd=>sl 79 d none (some c) none λc=>np 4 (bw a) λa=>sx 1 a c <| lx 4 e 4 b <| lr 4 b
theorem e93:E1 93 b93:=.f1
def b94 (a b c d:TV):RA X:=bx 0 c λc=>pl 0 c λe=>aE 5 e (U 9) (af 93 [(bw b)] λe=>al cE 0 λf=>sx 4 f e <| pl 0 f λe=>af 131 [a,d,e,(U 0)] λe=>pl 1 c λe=>lg 4 f λf=>ck 132 [e,f] λe f=>al cE 0 λf=>sx 4 f e <| lg 4 f λe=>af 90 [b,e] λe=>rv []) (af 93 [(bw b)] λe=>af 93 [(bw b)] λf=>al cE 0 λg=>al cE 0 λh=>sx 4 g e <| sx 4 h f <| pl 0 h λe=>pl 0 g λf=>af 131 [(bw a),d,e,f] λd=>nl 17 (bw a) λd=>pl 1 c λe=>lg 4 h λf=>lg 4 g λg=>al cE 0 λh=>af 133 [d,e,f,g] λd=>ey d λe f=>ex 2 (ct 1 (ct 0 d)) λd=>sx 4 h e <| lg 4 h λd=>pl 2 c λc=>af 134 [a,b,d,f,c] λa=>rv [])
theorem e94:E4 94 b94:=.f4
def JA (a b c d:TV):RA X:=bx 0 c λc=>pl 0 c λe=>jn (λ(f:TV)=>br f (pl 1 c λf=>np 1 b λg=>sx 1 g f <| rv []) (rv [])) λf=>aE 5 e (U 12) (af 93 [(bw b)] λg=>fd 1 false 1 g λg=>be 2 g I0 λg=>af 135 [a,d,(bw g)] λh=>f g) (be 5 e (U 13) λg=>jn (λ(h:TV)=>br h (nl 4 (bw b) λh=>nl 4 (bw b) λi=>ln 79 i λi=>bj 3 i I1 λi=>iq 4 1 h i λh=>be 2 h I0 λh=>pl 0 c λc=>be 5 c (U 13) λc=>be 4 h c λc=>af 135 [a,d,(bw c)] λa=>uo .not (bw c) λa=>br a (af 93 [(bw b)] λa=>f c) (f c)) (f Bt)) λa=>br g (a g) (be 5 e (U 14) λb=>a b))
theorem NC:E4 95 JA:=.f4
def Jz (a b c:TV):RA X:=bx 0 c λc=>pl 0 c λd=>aE 5 d (U 19) (np 9 (bw a) λe=>pl 1 e λe=>pl 1 c λf=>iq 5 2 e f λe=>af 136 [b,e] λe=>nl 21 (bw a) λf=>ln 78 f λf=>np 12 (bw a) λg=>pl 4 g λg=>aE 3 f g (pl 2 c λf=>af 130 [a,(U 5),f] λf=>rv []) (pl 1 c λf=>af 35 [a,f,e] λe=>rv [])) (aE 5 d (U 20) (pl 1 c λe=>jn (λ(f:TV)=>np 17 (bw a) λg=>l1 g λh=>np 18 (bw a) λi=>l1 i λj=>pa 1 c λk=>l1 k λl=>al cE 0 λm=>sv λn o=>af 136 [(bw b),f] λf=>rc [rl true true false none false 1 g h n o,rl true true false none false 1 i j n o,rl true true false none false 1 k l n o] <| af 137 [h,j,l,f] λf=>ey f λg h=>ex 2 (ct 1 (ct 0 f)) λf=>sx 4 m g <| lg 4 m λf=>pl 2 c λc=>af 134 [a,b,f,h,c] λc=>rv []) λc=>aE 2 e (I 7) (c I0) (aE 2 e (I 5) (c (I 2)) (c I1))) (aE 5 d (U 25) (af 93 [b] λb=>al cE 0 λc=>sx 4 c b <| af 138 [(bw a)] λb=>nl 22 (bw a) λb=>uo .not b λb=>br b (lg 4 c λb=>af 139 [a,b] λb=>rv []) (rv [])) (aE 5 d (U 26) (af 138 [a] λa=>rv []) (rv []))))
theorem NB:E3 96 Jz:=.f3
def Bv (a b c:TV):RA X:=bx 0 c λc=>pl 0 c λd=>aE 5 d (U 15) (af 93 [(bw b)] λe=>af 93 [(bw b)] λf=>al cE 0 λg=>al cE 0 λh=>sx 4 g e <| sx 4 h f <| nl 17 (bw a) λe=>lg 4 h λf=>pl 1 g λg=>al cE 0 λh=>ck 140 [e,f,g] λe f=>sx 4 h e <| lg 4 h λe=>pl 2 c λg=>af 134 [a,b,e,f,g] λe=>rv []) (aE 5 d (U 17) (np 17 (bw a) λe=>l1 e λf=>pa 1 c λg=>l1 g λh=>al cE 0 λi=>sv λj k=>af 93 [(bw b)] λl=>rc [rl true true false none false 1 e f j k,rl true true false none false 1 g h j k] <| ck 140 [f,l,h] λe f=>sx 4 i e <| lg 4 i λe=>pl 2 c λg=>af 134 [a,b,e,f,g] λe=>rv []) (aE 5 d (U 16) (af 93 [(bw b)] λe=>af 93 [(bw b)] λf=>af 93 [b] λg=>al cE 0 λh=>al cE 0 λi=>al cE 0 λl=>sx 4 h e <| sx 4 i f <| sx 4 l g <| nl 17 (bw a) λe=>lg 4 l λf=>pl 1 i λg=>lg 4 h λh=>af 141 [e,f,g,h] λe=>kE 5 (bw e) (U 0) (pl 2 c λf=>af 130 [a,e,f] λe=>rv []) (rv [])) (aE 5 d (U 18) (af 93 [(bw b)] λe=>af 93 [b] λf=>al cE 0 λg=>al cE 0 λh=>sx 4 g e <| sx 4 h f <| nl 17 (bw a) λe=>lg 4 h λf=>pl 1 c λh=>lg 4 g λg=>af 141 [e,f,h,g] λe=>kE 5 (bw e) (U 0) (pl 2 c λf=>af 130 [a,e,f] λe=>rv []) (rv [])) (aE 5 d (U 21) (pa 1 c λe=>l1 e λf=>al cE 0 λg=>sv λj k=>af 93 [(bw b)] λh=>rc [rl true true false none false 1 e f j k] <| fd 1 false 1 h λe=>ck 142 [(bw a),f,e] λe f=>sx 4 g e <| lg 4 g λe=>pl 2 c λg=>af 134 [a,b,e,f,g] λe=>rv []) (aE 5 d (U 22) (pl 1 c λe=>ck 143 [(bw a),e] λe f=>al cE 0 λg=>sx 4 g e <| lg 4 g λe=>pl 2 c λg=>af 92 [a,b,e,f,g] λe=>rv []) (aE 5 d (U 23) (af 93 [b] λe=>af 144 [(bw a),e] λe=>uo .not e λe=>br e (pl 2 c λc=>af 130 [a,(U 4),c] λa=>rv []) (rv [])) (aE 5 d (U 24) (af 93 [b] λa=>rv []) (rv []))))))))
theorem Bp:E3 97 Bv:=.f3
def b98 (a:TV):RA X:=jn (rt I0) λb=>bh 5 (bw a) (U 97) λc=>mt c (bw a) λd=>gj c (bm 5 d (U 122)) λc=>mf c (bw a) λd=>gk c (be 5 d (U 95)) λc=>br c (rt I1) (bh 5 (bw a) (U 65) λc=>mt c (bw a) λd=>gj c (bm 5 d (U 90)) λc=>br c (rt (I 2)) (bh 5 (bw a) (U 48) λc=>mt c (bw a) λa=>gj c (bm 5 a (U 57)) λa=>br a (rt (I 3)) b))
theorem e98:E1 98 b98:=.f1
def D1 (a:TV):RA X:=rt a
def BH (a:LB X) (b c:TV):RA X:=ln 9 (bw b) λd=>bl 3 (bw c) d λd=>mt d (bw b) λe=>mt d (bw c) λf=>gt d (ix 9 e f) λe=>gt d (af 98 [e]) λe=>gj d (bg 3 e I0) λd=>br d (ba 3 c I1 λd=>a [b,d]) (D1 c)
def b99 (a b:TV):RA X:=lp [0,1] (λk=>a2 (BH k)) [a,b]
def Q1:cL X:=aT [(12,[0,1],λ_ k=>a2 (BH k))]
theorem e99:E2 99 b99:=.G2 @Q1 λ_=>.s (.seq (.block (.lt λk1=>.l)) .l)
def DA:RA X:=rt Bf
def uN (a:LB X) (b c d e:TV):RA X:=cT 3 e d (jn (ba 3 e I1 λf=>a [b,c,d,f]) λa=>il 1 (bw c) (bw e) λc=>aE 9 c (bw b) (rt Bt) a) (DA)
def UQ (a:TV):RA X:=bs 0 16 z9 [(0,(S [114,101,99])),(1,(S [102,110])),(2,(S [118,97,114])),(3,(S [105,102])),(4,(S [101,108,115,101])),(5,(S [119,104,105,108,101])),(6,(S [114,101,116,117,114,110])),(7,(S [112,114,105,110,116])),(8,(S [116,114,117,101])),(9,(S [102,97,108,115,101])),(10,(S [110,105,108])),(11,(S [109,97,107,101])),(12,(S [105,110,116])),(13,(S [98,111,111,108])),(14,(S [115,116,114])),(15,(S [99,111,109,112]))] λb=>ln 68 (bw b) λc=>lp [0,3,7,8] (λk=>a4 (uN k)) [a,b,c,I0]
def Ly:cL X:=aT [(58,[0,3,7,8],λ_ k=>a4 (uN k))]
theorem T4:E1 100 UQ:=.G1 @Ly λ_=>.s (.s (.q (.lt λk1=>.l) .l))
def vw (a b c d e f g:TV):RA X:=sl 9 a (some b) (some d) none λa=>ck 145 [a] λa b=>bn 3 b I0 λb=>mf b (bw a) λd=>mf b (bw g) λg=>gk b (bg 2 d g) λb=>br b (lx 5 f 5 c <| ly 5 c λb=>rv [b,I0,(I 14)]) (px 3 f 1 a <| lx 5 f 5 c <| ly 5 c λa=>rv [a,e,I0])
def qY (a:LB X) (b c d e f g h:TV):RA X:=bj 3 (bw e) I1 λi=>bl 3 (bw c) i λi=>mt i (bw b) λj=>mt i (bw c) λk=>gt i (ix 9 j k) λj=>gj i (be 5 j (U 48)) λi=>br i (ba 3 c I1 λi=>a [b,i,d,e,f,g,h]) (vw b c d e f g h)
def vu (a b c d:TV):RA X:=af 99 [(bw a),(bw d)] λe=>bu bS nc [(0,(U 3))] λf=>al bS 0 λg=>sx 5 g f <| ba 3 (bw d) I1 λf=>be 3 (bw e) f λf=>mt f (bw a) λh=>mt f (bw d) λi=>gt f (ix 9 h i) λh=>gt f (be 5 h (U 105)) λh=>pk f h Bf λf=>jn (λ(h:TV)=>lp [0,1,4,7,8,9,10] (λk=>a7 (qY k)) [a,b,c,d,e,g,h]) λa=>br f (px 0 g 1 (U 4) <| a (I 8388607)) (kE 3 (bw e) (bw d) (lx 5 g 5 c <| ly 5 c λb=>rv [b,I0,(I 4)]) (a (I 9223372036854775807)))
def uM (a:LB X) (b c d e:TV):RA X:=ln 9 (bw b) λf=>bl 3 (bw e) f λf=>mt f (bw b) λg=>mt f (bw e) λh=>gt f (ix 9 g h) λg=>gt f (af 98 [g]) λg=>gj f (be 3 g (I 3)) λf=>br f (ba 3 e I1 λf=>a [b,c,d,f]) (vu b c d e)
def UP (a b:TV):RA X:=al bS 0 λc=>lp [0,1,4,7] (λk=>a4 (uM k)) [a,b,c,(bw b)]
def Lx:cL X:=aT [(1020,[0,1,4,7,8,9,10],λ_ k=>a7 (qY k)),(28,[0,1,4,7],λ_ k=>a4 (uM k))]
theorem T3:E2 101 UP:=.G2 @Lx λ_=>.s (.s (.seq (.block (.lt λk1=>.l)) (.s (.s (.s (.s (.seq (.block (.lt λk1=>.l)) .l)))))))
def Dz (a:TV):RA X:=ln 9 a λa=>rv [(S []),a,Bf]
def kK (a:LB X) (b c d:TV):RA X:=ba 3 d I1 λd=>a [b,c,d]
def Dy (a:LB X) (b c d:TV):RA X:=ba 3 (bw d) I1 λe=>ix 9 (bw b) e λe=>ba 3 (bw d) (I 2) λf=>ix 9 (bw b) f λf=>af 146 [e] λe=>bo .mul 3 e (I 16) λe=>af 146 [f] λf=>ba 3 e f λe=>cv 3 5 e λe=>bs 0 1 z5 [(0,e)] λe=>ap false 1 1 0 c e λc=>ba 3 d (I 2) λd=>kK a b c d
def qW (a b:LB X) (c d e f:TV):RA X:=WD 3 (bw f) (I 2) (jn (ba 3 f I1 λg=>b [c,d,e,g]) λb=>ba 3 (bw e) (bw f) λg=>ln 9 (bw c) λh=>bh 3 g h λg=>mf g (bw c) λh=>mf g (bw e) λi=>mf g (bw f) λj=>gf g (ba 3 i j) λi=>gf g (ix 9 h i) λh=>gf g (af 146 [h]) λh=>gk g (bl 3 h I0) λg=>br g (ba 3 e f λf=>rv [(S []),f,Bf]) b) (Dy a c d e)
def qX (a:LB X) (b c d:TV):RA X:=ln 9 (bw b) λe=>cT 3 (bw d) e (ix 9 (bw b) (bw d) λe=>bl 5 (bw e) (U 32) λf=>mf f (bw e) λg=>gk f (bg 5 g (U 126)) λf=>br f (rv [(S []),d,Bf]) (aE 5 (bw e) (U 34) (cv 77 9 c λf=>ba 3 d I1 λg=>rv [f,g,Bt]) (kE 5 (bw e) (U 92) (bs 0 1 z5 [(0,e)] λe=>ap false 1 1 0 c e λe=>kK a b e d) (ba 3 d I1 λd=>ln 9 (bw b) λe=>Tf 3 (bw d) e (rv [(S []),d,Bf]) (ix 9 (bw b) (bw d) λe=>be 5 e (U 34) λf=>jn (λ(g:TV)=>br g (ix 9 (bw b) (bw d) λg=>bs 0 1 z5 [(0,g)] λg=>ap false 1 1 0 c g λg=>kK a b g d) (aE 5 e (U 110) (bs 0 1 z5 [(0,(U 10))] λg=>ap false 1 1 0 c g λg=>kK a b g d) (aE 5 e (U 116) (bs 0 1 z5 [(0,(U 9))] λg=>ap false 1 1 0 c g λg=>kK a b g d) (aE 5 e (U 120) (lp [0,5,6,8] (λk=>a4 (qW a k)) [b,c,d,I1]) (rv [(S []),d,Bf]))))) λa=>br f (a f) (be 5 e (U 92) λc=>a c)))))) (Dz b)
def UO (a:TV):RA X:=ln 9 (bw a) λb=>be 3 b I0 λb=>mf b (bw a) λc=>gf b (ix 9 c I0) λc=>gk b (bn 5 c (U 34)) λb=>br b (rv [(S []),I0,Bf]) (bs 0 0 z5 [] λb=>lp [0,5,6] (λk=>a3 (qX k)) [a,b,I1])
def Lw:cL X:=aT [(1026029554,[0,5,6,8],λx k=>a4 (qW (QG x 0) k)),(122,[0,5,6],λ_ k=>a3 (qX k))]
theorem T1:E1 102 UO:=.G1 @Lw λ_=>.s (.s (.s (.q (.lt λk1=>(.s (.seq (.block (.s (.s (.s (.s (.s (.s (.s (.block (.s (.cond .l (.s (.cond .l (.s (.cond .l (.s (.cond (.q (.lt λk2=>.l) .l) .l))))))))))))))))) .l))) .l)))
def UN (a b:TV):RA X:=bx 0 a λa=>al z131 0 λc=>lg 6 a λd=>af 67 [d,b] λb=>uo .not b λb=>br b (lg 6 a λb=>cx 70 [b,(I 5)] 6 c <| lr 6 c) (pl 1 a λb=>ba 3 b I1 λb=>px 1 a 1 b <| lx 6 a 6 c <| lr 6 c)
theorem T0:E2 103 UN:=.f2
def UM (a b:TV):RA X:=bx 0 a λa=>al bS 0 λc=>al z131 0 λd=>lc 6 a 66 λe=>al bS 0 λf=>sx 5 f e <| lc 6 a 65 λe=>gf e (pa 0 f) λg=>gf e (l1 g) λg=>mf e (bw b) λb=>gk e (bn 5 g b) λb=>br b (lg 5 f λb=>lg 6 a λe=>sv λg h=>af 70 [e,(I 5)] λe=>rc [rm 5 f b g h] <| sx 5 c b <| sx 6 d e <| ly 5 c λb=>ly 6 d λe=>rv [b,e]) (pl 1 a λb=>ba 3 b I1 λb=>px 1 a 1 b <| lg 5 f λb=>lg 6 a λe=>sv λg h=>sx 5 c b <| rc [rl true false false (some c) true 6 a e g h] <| sx 6 d e <| ly 5 c λa=>ly 6 d λb=>rv [a,b])
theorem SZ:E2 104 UM:=.f2
def UL (a b:TV):RA X:=bx 0 a λa=>al z131 0 λc=>lg 6 a λd=>af 67 [d,(bw b)] λd=>gt d (pa 2 a) λe=>gt d (l1 e) λe=>gj d (bh 3 e (I 40)) λd=>br d (lg 6 a λd=>cx 70 [d,(I 6)] 6 c <| lr 6 c) (lg 6 a λd=>cx 103 [d,b] 6 a <| pl 2 a λb=>ba 3 b I1 λb=>px 2 a 1 b <| lx 6 a 6 c <| lr 6 c)
theorem SY:E2 105 UL:=.f2
def UK (a b:TV):RA X:=bx 0 a λa=>al z131 0 λc=>lg 6 a λd=>ck 104 [d,(U 1)] λd e=>al bS 0 λf=>sx 5 f d <| sx 6 a e <| lg 6 a λd=>cx 103 [d,(S [58])] 6 a <| lg 6 a λd=>ck 108 [d] λd e=>sx 6 a e <| lg 5 f λe=>pl 4 f λf=>lg 6 a λg=>sv λh i=>af 71 [b,e,f,I0,d] λb=>rc [rm 6 a g h i] <| sx 6 c g <| ly 6 c λa=>rv [b,a]
theorem SX:E2 106 UK:=.f2
def UJ (a b:TV):RA X:=bx 0 a λa=>al z131 0 λc=>lg 6 a λd=>cx 103 [d,b] 6 a <| pl 2 a λb=>bj 3 b I1 λb=>px 2 a 1 b <| lx 6 a 6 c <| lr 6 c
theorem SW:E2 107 UJ:=.f2
def vt (a b c:TV):RA X:=lg 6 a λd=>af 67 [d,(S [91])] λd=>br d (lg 6 a λd=>af 105 [d,(S [91])] λd=>ck 108 [d] λd e=>al z131 0 λf=>sx 6 f e <| lg 5 c λe=>lg 6 f λg=>sv λh i=>af 71 [(U 20),e,(S []),I0,d] λd=>rc [rm 6 f g h i] <| cx 107 [g,(S [93])] 6 b <| ly 6 b λe=>rv [d,e]) (lg 6 a λd=>ck 104 [d,(U 2)] λd e=>sx 5 c d <| sx 6 a e <| lg 5 c λd=>pl 4 c λc=>bs 0 0 dv [] λe=>lg 6 a λf=>sv λh i=>af 71 [(U 19),d,c,I0,e] λc=>rc [rm 6 a f h i] <| sx 6 b f <| ly 6 b λa=>rv [c,a])
def uL (a:LB X) (b c d e f g:TV):RA X:=cT 3 g f (jn (ba 3 g I1 λh=>a [b,c,d,e,f,h]) λa=>lg 6 b λf=>il 1 (bw e) (bw (bw g)) λh=>af 67 [f,h] λf=>br f (ba 3 (I 15) (bw (bw g)) λf=>cv 3 5 f λf=>lg 5 d λh=>bs 0 0 dv [] λi=>lg 6 b λj=>ia 1 e (bw g) λe=>l1 e λg=>sv λk l=>af 71 [f,h,(S []),I0,i] λf=>rc [rm 6 b j k l,rn e g k l] <| cx 103 [j,g] 6 c <| ly 6 c λe=>rv [f,e]) a) (vt b c d)
def UI (a:TV):RA X:=bx 0 a λa=>al z131 0 λb=>lc 6 a 66 λc=>al bS 0 λd=>sx 5 d c <| bs 0 4 z9 [(0,(S [105,110,116])),(1,(S [98,111,111,108])),(2,(S [115,116,114])),(3,(S [99,111,109,112]))] λc=>ln 68 (bw c) λe=>lp [1,3,4,5,13,14] (λk=>a6 (uL k)) [a,b,d,c,e,I0]
def Lv:cL X:=aT [(122,[1,3,4,5,13,14],λ_ k=>a6 (uL k))]
theorem SU:E1 108 UI:=.G1 @Lv λ_=>.s (.s (.s (.q (.lt λk1=>.l) .l)))
def vq (a b c d:TV):RA X:=lg 5 c λc=>lg 6 a λe=>sv λf g=>af 71 [(U 6),c,(S []),I0,d] λc=>rc [rm 6 a e f g] <| cx 107 [e,(S [125])] 6 b <| ly 6 b λa=>rv [c,a]
def uK (a:LB X) (b c d e:TV):RA X:=lc 6 b 65 λf=>uo .not f λf=>gt f (lg 6 b) λg=>gt f (af 67 [g,(S [125])]) λg=>gj f (uo .not g) λf=>br f (bs 0 0 dv [] λf=>lg 6 b λf=>ck 147 [f] λf g=>sx 6 b g <| ap false 6 56 0 e f λf=>a [b,c,d,f]) (vq b c d e)
def UH (a:TV):RA X:=bx 0 a λa=>al z131 0 λb=>lc 6 a 66 λc=>al bS 0 λd=>sx 5 d c <| lg 6 a λc=>cx 105 [c,(S [123])] 6 a <| bs 0 0 dv [] λc=>lp [1,3,4,5] (λk=>a4 (uK k)) [a,b,d,c]
def Lu:cL X:=aT [(124,[1,3,4,5],λ_ k=>a4 (uK k))]
theorem SR:E1 109 UH:=.G1 @Lu λ_=>.s (.s (.s (.s (.seq (.block (.lt λk1=>.l)) .l))))
def UG (a b:TV):RA X:=bs 0 0 dv [] λc=>ap false 6 56 0 c a λa=>ap false 6 56 0 a b λa=>rt a
theorem SP:E2 110 UG:=.f2
def UF (a:TV):RA X:=ln 25 (bw a) λb=>bg 3 b I0 λb=>mt b (bw a) λc=>gt b (af 148 [c,I0]) λc=>mt b (bw a) λa=>gt b (ln 25 a) λa=>gj b (be 3 c a) λa=>rt a
theorem SN:E1 111 UF:=.f1
def MY (a:TV):RA X:=bx 0 a λa=>pl 0 a λb=>jn (pl 5 a λc=>kE 9 c (S []) (rt Bf) (pl 0 a λc=>jn (pl 4 a λd=>be 2 d I0 λd=>rt d) λd=>aE 5 c (U 21) (pl 4 a λe=>bh 2 e I0 λe=>rt e) (aE 5 c (U 22) (pl 4 a λe=>bh 2 e I0 λe=>gt e (pa 4 a) λf=>gt e (l1 f) λf=>gj e (bl 2 f (I 8388608)) λe=>rt e) (aE 5 c (U 24) (pl 4 a λe=>be 2 e I0 λe=>gf e (pa 4 a) λf=>gf e (l1 f) λf=>gk e (be 2 f I1) λe=>rt e) (aE 5 c (U 30) (pl 4 a λe=>be 2 e (I 12) λe=>gf e (pa 4 a) λf=>gf e (l1 f) λf=>gk e (be 2 f (I 13)) λe=>rt e) (aE 5 c (U 31) (pl 4 a λc=>bh 2 c I1 λc=>gt c (pa 4 a) λe=>gt c (l1 e) λe=>gj c (bm 2 e (I 11)) λc=>gf c (pa 4 a) λe=>gf c (l1 e) λe=>gk c (be 2 e (I 14)) λc=>gf c (pa 4 a) λe=>gf c (l1 e) λe=>gk c (be 2 e (I 15)) λc=>rt c) d)))))) λc=>be 5 b (U 2) λd=>jn (λ(e:TV)=>br e (pl 5 a λe=>af 149 [e] λe=>gt e (pa 4 a) λf=>gt e (l1 f) λf=>gj e (be 2 f I0) λe=>rt e) (be 5 b (U 3) λe=>jn (λ(f:TV)=>br f (pl 5 a λf=>af 150 [f] λf=>gt f (pa 4 a) λg=>gt f (l1 g) λg=>gj f (be 2 g I0) λf=>rt f) (aE 5 b (U 4) (pl 5 a λf=>af 150 [f] λf=>rt f) (aE 5 b (U 23) (pl 4 a λa=>be 2 a I0 λa=>rt a) c))) λa=>br e (a e) (be 5 b (U 5) λc=>br c (a c) (be 5 b (U 7) λc=>br c (a c) (be 5 b (U 26) λc=>br c (a c) (be 5 b (U 27) λc=>br c (a c) (be 5 b (U 29) λc=>a c))))))) λa=>br d (a d) (be 5 b (U 19) λb=>a b)
theorem SK:E1 112 MY:=.f1
def vp (a b c d:TV):RA X:=cv 77 9 d λd=>bu dv sV [] λe=>al dv 0 λf=>sx 6 f e <| ln 31 (bw c) λe=>bg 3 e I0 λe=>jn (iq 6 0 (bw a) (bw b) λg=>jn (be 9 d (S []) λh=>mt h (bw a) λi=>mt h (bw b) λj=>gt h (ia 6 i j) λi=>gt h (pa 0 i) λi=>gt h (l1 i) λi=>gj h (bh 5 i (U 14)) λh=>mt h (bw a) λi=>mt h (bw b) λj=>gt h (ia 6 i j) λi=>gt h (pa 0 i) λi=>gt h (l1 i) λi=>gj h (bm 5 i (U 26)) λh=>rt h) λh=>aE 5 g (U 1) (be 3 b I0 λi=>mt i (bw d) λj=>gj i (af 152 [j,(U 100)]) λi=>rt i) (aE 5 g (U 2) (af 152 [d,(U 102)] λi=>rt i) (be 5 g (U 3) λi=>jn (λ(j:TV)=>br j (be 9 d (S [116]) λj=>rt j) (aE 5 g (U 4) (ln 9 (bw d) λj=>bh 3 (bw j) (I 2) λk=>mt k (bw j) λl=>gt k (bj 3 l (I 2)) λl=>mt k (bw a) λm=>mt k (bw b) λb=>gt k (ia 6 m b) λb=>gt k (pa 4 b) λb=>gt k (l1 b) λb=>gj k (be 2 l b) λb=>mt b (bw d) λk=>mt b (bw j) λl=>gt b (bj 3 l (I 2)) λl=>gt b (sl 9 k none (some l) none) λk=>gj b (af 152 [k,(U 112)]) λb=>mt b (bw d) λk=>mt b (bw j) λl=>gt b (bj 3 l (I 2)) λl=>gt b (ix 9 k l) λk=>gt b (be 5 k (U 116)) λk=>mt b (bw k) λk=>mf k (bw d) λl=>mf k (bw j) λm=>gf k (bj 3 m (I 2)) λm=>gf k (ix 9 l m) λl=>gf k (be 5 l (U 48)) λl=>gj b (pk k Bt l) λb=>mt b (bw d) λk=>mt b (bw j) λj=>gt b (bj 3 j I1) λj=>gt b (ix 9 k j) λj=>gj b (be 5 j (U 98)) λb=>rt b) (aE 5 g (U 6) (af 152 [d,(U 115)] λb=>rt b) (aE 5 g (U 7) (be 9 d (S [116,101]) λb=>rt b) (aE 5 g (U 8) (be 9 d (S [101,101]) λb=>gt b (pa 0 f) λj=>gt b (l1 j) λj=>gt b (be 5 j (U 26)) λj=>mt b (bw j) λj=>gf j (pa 0 f) λk=>gf j (l1 k) λk=>gf j (be 5 k (U 28)) λk=>gt b (pk j Bt k) λj=>mt b (bw j) λj=>gf j (pa 0 f) λk=>gf j (l1 k) λk=>gf j (be 5 k (U 29)) λk=>gj b (pk j Bt k) λb=>rt b) (aE 5 g (U 9) (be 9 (bw d) (S [101,98]) λb=>mf b (bw d) λj=>gk b (be 9 j (S [101,98,98])) λb=>rt b) (aE 5 g (U 10) (be 9 d (S [101,98]) λb=>rt b) (aE 5 g (U 11) (be 9 (bw d) (S []) λb=>mf b (bw d) λj=>gk b (be 9 j (S [101])) λb=>rt b) (be 5 g (U 12) λb=>jn (λ(j:TV)=>br j (be 9 d (S [101]) λj=>rt j) (aE 5 g (U 13) (be 9 d (S [101]) λj=>gt j (pa 0 f) λk=>gt j (l1 k) λk=>gj j (be 5 k (U 27)) λj=>rt j) (aE 5 g (U 27) (af 152 [d,(U 101)] λj=>rt j) (be 5 g (U 28) λj=>jn (λ(k:TV)=>br k (be 9 d (S [101,101]) λk=>rt k) (aE 5 g (U 32) (be 9 (bw d) (S [116]) λk=>gt k (pa 0 f) λl=>gt k (l1 l) λl=>gj k (be 5 l (U 19)) λk=>mf k (bw d) λd=>gf k (be 9 d (S [116,101])) λd=>mf k (bw d) λd=>gt d (pa 0 f) λl=>gt d (l1 l) λl=>gt d (be 5 l (U 20)) λl=>gk k (pk d l Bf) λd=>rt d) h)) λd=>br j (d j) (be 5 g (U 31) λh=>d h))))) λd=>br b (d b) (be 5 g (U 29) λb=>br b (d b) (be 5 g (U 30) λb=>d b))))))))))) λb=>br i (b i) (be 5 g (U 5) λd=>br d (b d) (be 5 g (U 20) λd=>b d))))) λb=>br e (il 1 c I0 λc=>ia 6 (bw a) c λa=>lx 6 a 6 f <| b) b
def uJ (a:LB X) (b c d e f g:TV):RA X:=cT 3 g f (jn (λ(h:TV)=>ba 3 g I1 λi=>a [b,c,d,h,f,i]) λa=>il 1 (bw d) (bw g) λf=>ia 6 (bw b) f λf=>lc 6 f 151 λf=>bs 0 1 z5 [(0,f)] λf=>ap false 1 1 0 e f λf=>a f) (vp b c d e)
def UE (a b:TV):RA X:=af 49 [(bw a),(bw b)] λc=>bs 0 0 z5 [] λd=>ln 31 (bw c) λe=>lp [0,1,5,6,16,17] (λk=>a6 (uJ k)) [a,b,c,d,e,I0]
def Lt:cL X:=aT [(122,[0,1,5,6,16,17],λ_ k=>a6 (uJ k))]
theorem SJ:E2 113 UE:=.G2 @Lt λ_=>.s (.s (.s (.q (.lt λk1=>.l) .l)))
def Dx (a:TV):RA X:=rt a
def uI (a:LB X) (b c d e f g:TV):RA X:=cT 3 g f (jn (λ(h:TV)=>ba 3 g I1 λi=>a [b,c,h,e,f,i]) λa=>il 1 (bw e) (bw (bw g)) λf=>iq 6 0 (bw b) f λb=>aE 5 b (bw c) (il 1 (bw e) (bw g) λb=>bs 0 1 z3 [(0,b)] λb=>ap false 1 8 0 d b λb=>a b) (a d)) (Dx d)
def UD (a b:TV):RA X:=bs 0 0 z3 [] λc=>af 49 [(bw a),I0] λd=>ln 31 (bw d) λe=>lp [0,1,5,6,12,13] (λk=>a6 (uI k)) [a,b,c,d,e,I0]
def Ls:cL X:=aT [(122,[0,1,5,6,12,13],λ_ k=>a6 (uI k))]
theorem SI:E2 114 UD:=.G2 @Ls λ_=>.s (.s (.s (.q (.lt λk1=>.l) .l)))
def Dw:RA X:=rt Bf
def uH (a:LB X) (b c d e f:TV):RA X:=cT 3 f e (jn (ba 3 f I1 λg=>a [b,c,d,e,g]) λa=>il 1 (bw c) (bw f) λc=>iq 6 5 (bw b) c λb=>aE 9 b (bw d) (rt Bt) a) (Dw)
def UC (a b c:TV):RA X:=ln 31 (bw b) λd=>lp [0,1,2,9,10] (λk=>a5 (uH k)) [a,b,c,d,I0]
def Lr:cL X:=aT [(26,[0,1,2,9,10],λ_ k=>a5 (uH k))]
theorem SH:E3 115 UC:=.G3 @Lr λ_=>.s (.q (.lt λk1=>.l) .l)
def UB (a b c:TV):RA X:=bx 0 a λa=>bx 0 c λc=>al bR 0 λd=>bs 0 0 gJ [] λe=>pq 0 1 a λf=>ap false 3 24 1 e f λe=>lg 3 c λc=>ia 3 (bw e) b λb=>sx 3 b c <| fz e λb=>pp 0 1 a λc=>sx 1 c b <| ly 13 a λa=>sx 13 d a <| lr 13 d
theorem SF:E3 116 UB:=.f3
def vo (a:TV):RA X:=rt a
def uG (a:LB X) (b c d:TV):RA X:=bl 3 (bw d) (bw b) λe=>mt e (bw d) λf=>gj e (bl 3 f (I 100)) λe=>br e (jn (λ(e:TV)=>ba 3 d I1 λf=>a [b,e,f]) λa=>bu z156 mE [(0,(U 6)),(1,(bw d))] λb=>bs 0 1 z156 [(0,b)] λb=>ap false 2 16 0 c b λb=>a b) (vo c)
def UA (a:TV):RA X:=bu z156 mE [(0,(U 0))] λb=>bu z156 mE [(0,(U 1))] λc=>bu z156 mE [(0,(U 2))] λd=>bu z156 mE [(0,(U 3))] λe=>bu z156 mE [(0,(U 4))] λf=>bu z156 mE [(0,(U 5))] λg=>bs 0 6 z156 [(0,b),(1,c),(2,d),(3,e),(4,f),(5,g)] λb=>lp [0,3,4] (λk=>a3 (uG k)) [a,b,I0]
def Lq:cL X:=aT [(58,[0,3,4],λ_ k=>a3 (uG k))]
theorem SE:E1 117 UA:=.G1 @Lq λ_=>.s (.s (.q (.lt λk1=>.l) .l))
def Uz (a b:TV):RA X:=bx 0 a λa=>al bR 0 λc=>pq 0 0 a λd=>iq 6 0 (bw d) (bw b) λe=>aE 5 e (U 14) (ly 13 a λe=>sx 13 c e <| ly 13 c λe=>rv [I0,e]) (iq 6 0 (bw d) (bw b) λe=>aE 5 e (U 20) (ly 13 a λe=>ba 3 (bw b) I1 λf=>cl 118 [e,f] λe=>ey e λe f=>al bR 0 λg=>sx 13 g f <| lc 13 g 74 λf=>br f (ly 13 g λf=>sx 13 c f <| ly 13 c λf=>rv [I0,f]) (pq 0 2 g λf=>ck 153 [f,e] λe f=>pp 0 2 g λh=>sx 1 h e <| ly 13 g λe=>bu gJ kD [(0,f)] λg=>cl 116 [e,b,g] λe=>sx 13 c e <| ly 13 c λe=>rv [(bw f),e])) (pq 0 2 a λe=>pl 9 a λf=>ba 3 (bw b) I1 λg=>sl 25 d (some (bw b)) (some g) none λd=>ck 154 [e,f,d] λd d=>aE 3 (bw d) I0 (ly 13 a λe=>cl 77 [e,(I 8),b] λe=>sx 13 c e <| ly 13 c λe=>rv [I0,e]) (ly 13 a λa=>bu gJ kD [(0,d)] λe=>cl 116 [a,b,e] λa=>sx 13 c a <| ly 13 c λa=>rv [(bw d),a])))
theorem SD:E2 118 Uz:=.f2
def Dv:RA X:=rt I0
def uF (a:LB X) (b c d e:TV):RA X:=cT 3 e d (jn (ba 3 e I1 λf=>a [b,c,d,f]) λa=>il 1 (bw c) (bw (bw e)) λc=>aE 9 c (bw b) (rt (bw e)) a) (Dv)
def Uy (a:TV):RA X:=bs 0 9 z9 [(0,(S [])),(1,(S [108,101,110])),(2,(S [116,101,120,116])),(3,(S [114,101])),(4,(S [105,109])),(5,(S [112,97,105,114])),(6,(S [99,104,114])),(7,(S [114,101,97,100])),(8,(S [114,97,110,100]))] λb=>ln 68 (bw b) λc=>lp [0,3,7,8] (λk=>a4 (uF k)) [a,b,c,I0]
def Lp:cL X:=aT [(58,[0,3,7,8],λ_ k=>a4 (uF k))]
theorem SC:E1 119 Uy:=.G1 @Lp λ_=>.s (.s (.q (.lt λk1=>.l) .l))
def Ux (a b c d e f g:TV):RA X:=bx 0 a λa=>al bR 0 λh=>pq 0 5 a λi=>ia 8 i (bw b) λi=>lg 8 i λi=>al qL 0 λj=>sx 8 j i <| bs 0 0 FH [] λi=>ap false 4 40 0 i c λc=>pl 5 j λi=>pq 0 7 a λk=>ln 32 k λk=>bu FH cM [(0,(bw d)),(1,i),(2,f),(3,k)] λf=>bs 0 1 FH [(0,f)] λf=>ap false 4 40 0 c f λc=>pp 0 7 a λf=>lt false 1 f λf=>pl 5 j λi=>bu JM nc [(0,(bw b)),(1,d),(2,i),(3,g)] λd=>bs 0 1 JM [(0,d)] λd=>ap false 5 48 0 f d λd=>pp 0 7 a λf=>sx 1 f d <| pp 0 6 a λd=>lt false 1 d λd=>bs 0 1 z3 [(0,e)] λe=>ap false 1 8 0 d e λd=>pp 0 6 a λe=>sx 1 e d <| bs 0 0 qL [] λd=>pq 0 5 a λe=>ap false 8 72 1 d e λd=>pl 5 j λe=>ba 3 e I1 λe=>ip 8 5 (bw d) b λb=>sx 1 b e <| fz d λb=>pp 0 5 a λd=>sx 1 d b <| ly 13 a λa=>sx 13 h a <| ly 13 h λa=>rv [c,a]
theorem SB:E7 120 Ux:=.f7
def vn (a b c:TV):RA X:=fz c λc=>pp 0 7 a λd=>sx 1 d c <| ly 13 a λa=>sx 13 b a <| lr 13 b
def qV (a:LB X) (b c d e f g h:TV):RA X:=cT 3 h g (jn (ba 3 h I1 λi=>a [b,c,d,e,f,g,i]) λa=>iq 4 2 (bw b) (bw (bw h)) λg=>aE 3 g (bw c) (iq 4 3 (bw b) (bw h) λb=>pq 0 8 d λc=>ln 33 c λc=>ip 5 4 (bw f) b λb=>sx 1 b c <| a) a) (vn d e f)
def vl (a b c d:TV):RA X:=bs 0 0 JM [] λe=>pq 0 7 c λf=>ap false 5 48 1 e f λe=>ln 218 (bw a) λf=>lp [2,3,4,8,11,46,47] (λk=>a7 (qV k)) [a,b,c,d,e,f,I0]
def uE (a:LB X) (b c d e f g h i:TV):RA X:=cT 3 i h (jn (λ(j:TV)=>ba 3 i I1 λk=>a [b,j,d,e,f,g,h,k]) λa=>lc 13 e 74 λh=>br h (ly 13 e λh=>sx 13 f h <| lr 13 f) (ly 13 e λh=>il 1 (bw g) (bw i) λg=>cl 155 [h,(bw b),c,(bw d),g] λb=>ey b λb g=>sx 13 e g <| a b)) (vl c d e f)
def Uw (a b c d:TV):RA X:=bx 0 a λa=>al bR 0 λe=>pq 0 0 a λf=>af 49 [f,(bw d)] λf=>ln 31 (bw f) λg=>lp [1,2,3,4,8,9,19,20] (λk=>a8 (uE k)) [b,c,d,a,e,f,g,I0]
def Lo:cL X:=aT [(506,[2,3,4,8,11,46,47],λ_ k=>a7 (qV k)),(58,[1,2,3,4,8,9,19,20],λ_ k=>a8 (uE k))]
theorem SA:E4 121 Uw:=.G4 @Lo λ_=>.s (.s (.q (.lt λk1=>.l) (.s (.s (.q (.lt λk1=>.l) .l)))))
variable {X:CX}
def Uv (a b:TV):RA X:=bx 0 a λa=>al ek 0 λc=>pq 12 0 a λd=>kE 41 d I0 (lx 16 a 16 c <| ly 16 c λd=>rv [I0,d]) (pl 0 a λd=>ia 6 d (bw b) λd=>lg 6 d λd=>al dv 0 λe=>sx 6 e d <| pl 0 a λd=>af 49 [d,(bw b)] λd=>pl 1 a λf=>iq 3 0 f (bw b) λf=>jn (λ(g:TV)=>lg 16 a λh=>cx 160 [h,b,g] 16 c <| ly 16 c λc=>rv [(bw g),c]) λc=>pl 0 e λg=>bh 5 g (U 21) λg=>gt g (pa 0 e) λh=>gt g (l1 h) λh=>gj g (bm 5 h (U 25)) λg=>br g (bs 0 5 z3 [(0,I1),(1,(I 4)),(2,(I 3)),(3,(I 2)),(4,(I 5))] λg=>pl 0 e λh=>bj 5 h (U 21) λh=>il 1 g h λg=>c g) (pl 0 e λg=>aE 5 g (U 27) (lg 16 a λg=>ck 156 [g,(bw b)] λg h=>sx 16 a h <| c g) (pl 0 e λg=>aE 5 g (U 28) (lg 16 a λg=>il 1 (bw d) I0 λh=>al ek 0 λi=>ck 122 [g,h] λg h=>sx 16 i h <| lg 16 i λh=>il 1 (bw d) I1 λj=>ck 122 [h,j] λh j=>sx 16 i j <| lx 16 i 16 a <| lg 16 a λi=>af 157 [i,(bw g)] λi=>be 5 i (U 7) λi=>jn (λ(j:TV)=>be 3 g (I 3) λk=>jn (λ(l:TV)=>lg 16 a λm=>bg 3 (bw l) I0 λn=>il 1 (bw d) I0 λo=>be 3 h I1 λh=>ia 1 d I1 λp=>l1 p λq=>sv λr s=>af 123 [m,n,o] λm=>rc [rn p q r s] <| cx 123 [m,h,q] 16 a <| c l) λh=>br k (h I1) (h j)) λh=>br i (pl 11 a λi=>iq 2 1 i (bw g) λg=>h g) (h I0)) (pl 0 e λg=>aE 5 g (U 29) (lg 16 a λg=>il 1 d I0 λh=>ck 158 [g,(bw b),h] λg h=>sx 16 a h <| c g) (pl 0 e λg=>aE 5 g (U 30) (lg 16 a λg=>il 1 (bw d) I0 λh=>ck 122 [g,h] λg h=>sx 16 a h <| lg 16 a λh=>pl 4 e λi=>be 2 i (I 13) λi=>mt i (bw g) λj=>gj i (be 3 j (I 2)) λi=>gf i (pa 4 e) λj=>gf i (l1 j) λj=>gf i (be 2 j (I 12)) λj=>mf i (bw j) λj=>mt j (bw g) λk=>gt j (be 3 k I1) λk=>mt j (bw k) λk=>mf k (bw g) λl=>gf k (be 3 l (I 4)) λl=>gt j (pk k Bt l) λk=>gk i (pk j k Bf) λi=>il 1 d I0 λj=>cx 123 [h,i,j] 16 a <| c g) (pl 0 e λg=>aE 5 g (U 31) (lg 16 a λg=>il 1 (bw d) I0 λh=>al ek 0 λi=>ck 122 [g,h] λg h=>sx 16 i h <| lg 16 i λh=>il 1 d I1 λj=>ck 122 [h,j] λh j=>sx 16 i j <| lx 16 i 16 a <| lg 16 a λi=>pl 4 e λj=>af 159 [i,j,g,h] λg=>lg 16 a λh=>bg 3 (bw g) I0 λi=>cx 123 [h,i,(bw b)] 16 a <| c g) (pl 0 e λb=>be 5 b (U 32) λb=>mt b (bw d) λe=>gt b (ln 31 e) λe=>gj b (be 3 e (I 2)) λb=>br b (lg 16 a λb=>il 1 (bw d) I1 λe=>al ek 0 λg=>ck 122 [b,e] λb e=>sx 16 g e <| lg 16 g λe=>be 3 b I1 λb=>il 1 d I1 λd=>cx 123 [e,b,d] 16 a <| c f) (c f))))))))
theorem Sz:E2 122 Uv:=.f2
def Uu (a b c:TV):RA X:=bx 0 a λa=>al ek 0 λd=>br b (lx 16 a 16 d <| lr 16 d) (lg 16 a λa=>cx 51 [a,(I 9),c] 16 d <| lr 16 d)
theorem M7:E3 123 Uu:=.f3
def Ut (a b c:TV):RA X:=bx 0 a λa=>pl 11 a λa=>af 161 [a,b,c] λa=>rt a
theorem Sy:E3 124 Ut:=.f3
def Du:RA X:=rt (I (-1))
def uD (a:LB X) (b c d e:TV):RA X:=cT 3 e d (jn (ba 3 e I1 λf=>a [b,c,d,f]) λa=>lg 2 c λc=>ia 2 (bw b) (bw (bw e)) λb=>lg 2 b λb=>aE 156 c b (rt (bw e)) a) (Du)
def Us (a b:TV):RA X:=bx 0 b λb=>ln 27 (bw a) λc=>lp [0,3,7,8] (λk=>a4 (uD k)) [a,b,c,I0]
def Ln:cL X:=aT [(26,[0,3,7,8],λ_ k=>a4 (uD k))]
theorem Sw:E2 127 Us:=.G2 @Ln λ_=>.s (.q (.lt λk1=>.l) .l)
def l9 (a b c:TV):RA X:=bx 0 b λb=>bx 0 c λc=>pl 0 b λd=>jn (rv [(U 6),I0]) λe=>aE 5 d (U 21) (pl 4 b λf=>rv [(U 2),f]) (aE 5 d (U 22) (pl 4 b λf=>rv [(U 4),f]) (aE 5 d (U 23) (pl 5 b λf=>af 163 [a,f] λf=>rv [(U 5),f]) (aE 5 d (U 24) (pl 4 b λf=>rv [(U 3),f]) (aE 5 d (U 26) (pl 1 c λf=>rv [(U 7),f]) (aE 5 d (U 27) (pl 1 c λf=>cT 3 f I0 (pl 1 c λf=>uo .neg f λf=>rv [(U 20),f]) (pl 1 c λf=>rv [(U 19),f])) (aE 5 d (U 28) (rv [(U 15),I0]) (aE 5 d (U 29) (pl 1 c λf=>rv [(U 17),f]) (aE 5 d (U 30) (pl 4 b λf=>rv [(U 9),f]) (aE 5 d (U 31) (pl 4 b λb=>rv [(U 10),b]) (aE 5 d (U 32) (np 0 a λa=>pl 2 a λa=>pl 0 c λb=>ia 2 a b λa=>lg 2 a λa=>al z156 0 λb=>sx 2 b a <| pl 0 b λa=>aE 5 a (U 6) (pl 1 b λa=>rv [(U 22),a]) (pl 1 b λa=>rv [(U 21),a])) e))))))))))
theorem kX:E3 128 l9:=.f3
def HZ (a b:TV):RA X:=bx 0 b λb=>al cE 0 λc=>lc 4 b 164 λd=>nl 0 (bw a) λe=>nl 1 (bw a) λf=>bj 3 e f λe=>HO 3 (bw d) e (bu cE cM [] λe=>sx 4 c e <| ly 4 c λe=>rv [e,Bf]) (nl 1 (bw a) λe=>ba 3 e d λd=>np 1 (bw a) λe=>sx 1 e d <| np 2 (bw a) λd=>lt false 1 d λd=>lg 4 b λe=>bu NS P3 [(0,e)] λe=>ER 0 e λe=>bs 1 1 z162 [(0,e)] λe=>ap true 1 8 2 d e λd=>np 2 (bw a) λe=>sx 1 e d <| pl 0 b λb=>nl 2 a λa=>ln 151 a λa=>bu cE cM [(0,b),(1,a)] λa=>sx 4 c a <| ly 4 c λa=>rv [a,Bt])
theorem M6:E2 129 HZ:=.f2
def Ur (a b c:TV):RA X:=bu JL kD [(0,(U 2)),(1,b),(2,c)] λb=>af 89 [a,b] λa=>rv []
theorem Sv:E3 130 Ur:=.f3
def MX (a b c d:TV):RA X:=nl 27 a λa=>ia 4 a b λa=>nl 0 (bw a) λb=>bo .shl 5 (U 1) c λc=>bo .or 5 b c λb=>np 0 (bw a) λc=>sx 1 c b <| kE 5 (bw d) (U 0) (nl 1 a λb=>bo .shl 5 (U 1) d λc=>bo .or 5 b c λb=>np 1 a λa=>sx 1 a b <| rv []) (rv [])
theorem Su:E4 131 MX:=.f4
def w6 (a b:TV):RA X:=bx 0 b λb=>al cE 0 λc=>jn (bu cE cM [] λd=>sx 4 c d <| ly 4 c λd=>rv [d,Bf]) λd=>be 2 (bw a) (I 12) λe=>gt e (pa 0 b) λf=>gt e (l1 f) λf=>gj e (be 5 f (U 1)) λe=>br e (pl 1 b λe=>af 166 [e] λe=>cx 165 [e] 4 c <| ly 4 c λe=>rv [e,Bt]) (be 2 (bw a) (I 12) λe=>gt e (pa 0 b) λf=>gt e (l1 f) λf=>gj e (be 5 f (U 4)) λe=>br e (lc 4 b 169 λe=>af 168 [e] λe=>cx 167 [e] 4 c <| ly 4 c λe=>rv [e,Bt]) (be 2 a (I 13) λa=>gt a (pa 0 b) λe=>gt a (l1 e) λe=>gj a (be 5 e (U 2)) λa=>br a (pl 1 b λa=>be 2 a I0 λa=>cx 170 [a] 4 c <| ly 4 c λa=>rv [a,Bt]) d))
theorem AQ:E2 132 w6:=.f2
def mN (a b c d:TV):RA X:=bx 0 c λc=>bx 0 d λd=>al cE 0 λe=>lc 4 c 171 λf=>gt f (lg 4 d) λg=>gj f (af 171 [g]) λf=>br f (pl 0 c λf=>pl 0 d λg=>be 5 f g λf=>gt f (pa 1 c) λg=>gt f (l1 g) λg=>gt f (pa 1 d) λh=>gt f (l1 h) λh=>gt f (be 2 g h) λg=>mt f (bw g) λg=>gf g (pa 0 c) λh=>gf g (l1 h) λh=>gf g (be 5 h (U 5)) λh=>gj f (pk g Bt h) λf=>ck 172 [b,f] λf g=>al cE 0 λh=>sx 4 h f <| lx 4 h 4 e <| ly 4 e λf=>rv [f,(U 0),g]) (pl 0 c λf=>pl 0 d λg=>kE 5 f g (bu cE cM [] λf=>sx 4 e f <| ly 4 e λf=>rv [f,(U 0),Bf]) (pl 0 c λf=>jn (bu cE cM [] λg=>sx 4 e g <| ly 4 e λg=>rv [g,(U 0),Bf]) λg=>aE 5 f (U 1) (pl 1 c λh=>pl 1 d λi=>af 173 [b,h,i] λh=>ey h λi j=>ex 2 (ct 1 (ct 0 h)) λh=>sx 4 e i <| ly 4 e λi=>rv [i,j,h]) (aE 5 f (U 2) (pl 1 c λh=>bn 2 h I0 λh=>pl 1 d λi=>bn 2 i I0 λi=>be 4 h i λh=>ck 172 [b,h] λh i=>al cE 0 λj=>sx 4 j h <| lx 4 j 4 e <| ly 4 e λh=>rv [h,(U 0),i]) (aE 5 f (U 4) (lg 4 c λh=>lg 4 d λi=>al cE 0 λj=>sv λk l=>af 169 [h] λh=>rc [rm 4 d i k l] <| af 169 [i] λi=>ck 174 [b,h,i] λh i=>sx 4 j h <| lx 4 j 4 e <| ly 4 e λh=>rv [h,(U 0),i]) (aE 5 f (U 3) (lg 4 c λc=>ck 175 [(bw a),c] λc f=>lg 4 d λd=>ck 175 [(bw a),d] λd h=>gg (bw f) true (mv (bw h)) λi=>pk (bw f) i Bf λi=>mt i (bw b) λj=>gj i (be 2 j I1) λi=>br i (ba 9 c d λi=>af 176 [a,i] λa=>ey a λi j=>ex 2 (ct 1 (ct 0 a)) λa=>sx 4 e i <| ly 4 e λi=>rv [i,j,a]) (mt f (bw h) λa=>pb f a Bf (be 9 c d λa=>ck 172 [b,a] λa b=>al cE 0 λc=>sx 4 c a <| lx 4 c 4 e <| ly 4 e λa=>rv [a,(U 0),b]) g)) g)))))
theorem mK:E4 133 mN:=.f4
def MW (a b c d e:TV):RA X:=bx 0 c λc=>kE 5 (bw d) (U 0) (af 130 [a,d,e] λa=>rv []) (lg 4 c λa=>af 90 [b,a] λa=>rv [])
theorem Ss:E5 134 MW:=.f5
def MV (a b c:TV):RA X:=nl 27 a λa=>ia 4 a b λa=>br c (nl 2 a λb=>ba 3 b I1 λb=>bi .min #[3,3] 3 #[false,true] [b,(I 1073741824)] λb=>np 2 (bw a) λc=>sx 1 c b <| rv []) (nl 3 a λb=>ba 3 b I1 λb=>bi .min #[3,3] 3 #[false,true] [b,(I 1073741824)] λb=>np 3 (bw a) λa=>sx 1 a b <| rv [])
theorem M5:E3 135 MV:=.f3
def HY (a b:TV):RA X:=nl 4 (bw a) λc=>ln 79 c λc=>bj 3 c b λb=>bs 0 0 cE [] λc=>nl 4 (bw a) λd=>sl 79 d (some (bw b)) none none λd=>ap true 4 32 0 c d λc=>np 4 a λd=>lt false 1 d λd=>sl 79 d none (some b) none λb=>np 4 (bw a) λa=>sx 1 a b <| rt c
theorem Sr:E2 136 HY:=.f2
def eR (a b c d e:TV):RA X:=jn (ck 182 [b] λf g=>uo .not g λg=>br g (bu cE cM [] λg=>sx 4 e g <| ly 4 e λg=>rv [g,(U 6),Bt]) (cx 165 [f] 4 e <| ly 4 e λf=>rv [f,(U 0),Bt])) λf=>aE 3 c I1 (ia 4 d I0 λg=>lg 4 g λg=>af 178 [a,g] λg=>ey g λh i=>ex 2 (ct 1 (ct 0 g)) λg=>sx 4 e h <| ly 4 e λh=>rv [h,i,g]) (aE 3 c (I 2) (ia 4 d I0 λg=>lg 4 g λg=>af 179 [a,g] λg=>ey g λh i=>ex 2 (ct 1 (ct 0 g)) λg=>sx 4 e h <| ly 4 e λh=>rv [h,i,g]) (aE 3 c (I 3) (ia 4 d I0 λg=>lc 4 g 169 λg=>fd 0 false 1 g λg=>cx 165 [g] 4 e <| ly 4 e λg=>rv [g,(U 0),Bt]) (aE 3 c (I 4) (ia 4 d I0 λg=>lc 4 g 169 λg=>fd 1 false 1 g λg=>cx 165 [g] 4 e <| ly 4 e λg=>rv [g,(U 0),Bt]) (aE 3 c (I 5) (iq 4 1 (bw d) I0 λg=>iq 4 1 d I1 λh=>af 180 [g,h] λg=>cx 167 [g] 4 e <| ly 4 e λg=>rv [g,(U 0),Bt]) (aE 3 c (I 6) (iq 4 1 d I0 λg=>cv 2 5 g λg=>bs 0 1 z5 [(0,g)] λg=>cv 77 9 g λg=>af 176 [a,g] λa=>ey a λg h=>ex 2 (ct 1 (ct 0 a)) λa=>sx 4 e g <| ly 4 e λg=>rv [g,h,a]) (aE 3 c (I 8) (iq 4 1 d I0 λa=>ck 181 [b,a] λa b=>kE 5 (bw b) (U 0) (bu cE cM [] λc=>sx 4 e c <| ly 4 e λc=>rv [c,b,Bt]) (cx 165 [a] 4 e <| ly 4 e λa=>rv [a,(U 0),Bt])) f))))))
def qU (a:LB X) (b c d e f g h i:TV):RA X:=cT 3 i h (jn (ba 3 i I1 λj=>a [b,c,d,e,f,g,h,j]) λa=>il 1 g i λg=>bn 5 (bw g) (U 0) λh=>mt h (bw e) λj=>mt h (bw (bw i)) λi=>gt h (ia 4 j i) λi=>gt h (pa 0 i) λi=>gt h (l1 i) λi=>mt h (bw g) λg=>gj h (bn 5 i g) λg=>br g (bu cE cM [] λg=>sx 4 f g <| ly 4 f λg=>rv [g,(U 0),Bf]) a) (eR b c d e f)
def MU (a b c d:TV):RA X:=al cE 0 λe=>ck 177 [(bw c)] λf g=>uo .not g λg=>mf g (bw d) λh=>gf g (ln 79 h) λh=>mf g (bw f) λi=>gf g (ln 77 i) λi=>gk g (bn 3 h i) λg=>br g (bu cE cM [] λg=>sx 4 e g <| ly 4 e λg=>rv [g,(U 0),Bf]) (ln 77 f λg=>lp [0,1,2,3,8,34,35,36] (λk=>a8 (qU k)) [a,b,c,d,e,f,g,I0])
def Lm:cL X:=aT [(122,[0,1,2,3,8,34,35,36],λ_ k=>a8 (qU k))]
theorem M4:E4 137 MU:=.G4 @Lm λ_=>.s (.s (.s (.q (.lt λk1=>.l) .l)))
def MT (a:TV):RA X:=nl 21 (bw a) λb=>nl 21 (bw a) λc=>ln 78 c λc=>bj 3 c I1 λc=>sl 78 b none (some c) none λb=>np 21 (bw a) λc=>sx 1 c b <| nl 21 (bw a) λb=>ln 78 b λb=>aE 3 b I0 (bu JL kD [(0,(U 1))] λb=>af 89 [a,b] λa=>rv []) (rv [])
theorem Sq:E1 138 MT:=.f1
def Uq (a b:TV):RA X:=bx 0 b λb=>af 59 [a] λa=>nl 5 (bw a) λc=>aE 91 c Vn (lg 4 b λc=>af 90 [a,c] λc=>rv []) (nl 5 (bw a) λc=>nl 1 c λc=>nl 6 a λd=>bj 3 d I1 λd=>iq 9 3 c d λc=>lg 4 b λb=>af 183 [(bw a),c,b] λa=>rv [])
theorem Sp:E2 139 Uq:=.f2
def AX (a b c:TV):RA X:=bx 0 b λb=>al cE 0 λd=>lg 4 b λe=>ck 184 [(bw a),e] λe f=>jn (lg 4 b λg=>af 185 [a,g] λg=>np 0 g λg=>pl 3 g λg=>ia 4 g c λg=>lx 4 g 4 d <| ly 4 d λg=>rv [g,(U 0)]) λg=>kE 5 (bw f) (U 0) (bu cE cM [] λh=>sx 4 d h <| ly 4 d λh=>rv [h,f]) (bl 2 (bw c) I0 λf=>mf f (bw c) λh=>mf f (bw e) λe=>gk f (bh 2 h e) λe=>br e (bu cE cM [] λe=>sx 4 d e <| ly 4 d λe=>rv [e,(U 2)]) (pl 0 b λe=>aE 5 e (U 3) (lg 4 b λb=>af 185 [a,b] λa=>np 0 a λa=>pl 2 a λa=>ix 9 a c λa=>cv 5 2 a λa=>bu cE cM [(0,(U 1)),(1,a)] λa=>sx 4 d a <| ly 4 d λa=>rv [a,(U 0)]) g))
theorem EF:E3 140 AX:=.f3
def AW (a b c d:TV):RA X:=bx 0 b λb=>bx 0 d λd=>lg 4 b λe=>af 185 [(bw a),e] λe=>jn (nl 4 (bw e) λf=>jn (λ(g:TV)=>np 0 g λg=>pl 3 g λg=>lg 4 d λd=>ia 4 g c λg=>sx 4 g d <| rt (U 0)) λd=>br f (np 0 (bw e) λf=>pl 3 f λf=>ln 79 f λf=>ms 2 4 32 cE f f λf=>np 0 (bw e) λg=>pl 3 g λg=>cp 4 (bw f) g λg=>np 0 (bw e) λg=>pl 0 g λg=>np 0 e λh=>pl 1 h λh=>bu z164 cM [(0,g),(1,h),(3,f)] λf=>bu NS P3 [(0,f)] λf=>ER 0 f λf=>nl 2 a λa=>pl 1 b λg=>bj 2 g I1 λg=>ia 1 a g λa=>sx 1 a (bw f) <| d f) (d e)) λa=>be 162 (bw e) Vn λd=>gf d (pa 0 b) λb=>gf d (l1 b) λb=>gk d (be 5 b (U 3)) λb=>br b (rt (U 3)) (bl 2 (bw c) I0 λb=>mf b (bw c) λc=>mf b (bw e) λd=>gf b (nk d) λd=>gf b (pa 0 d) λd=>gf b (pa 3 d) λd=>gf b (l1 d) λd=>gf b (ln 79 d) λd=>gk b (bh 2 c d) λb=>br b (rt (U 2)) a)
theorem EE:E4 141 AW:=.f4
def MQ (a b c:TV):RA X:=al cE 0 λd=>cT 2 (bw c) I0 (bu cE cM [] λe=>sx 4 d e <| ly 4 d λe=>rv [e,(U 2)]) (nl 17 (bw a) λe=>bi .min #[2,2] 2 #[false,true] [c,(I 65536)] λc=>nl 26 a λa=>ia 4 a b λa=>lg 4 a λa=>al cE 0 λf=>ck 186 [e,(bw b),c,a] λa b=>sx 4 f a <| uo .not b λa=>br a (lx 4 f 4 d <| ly 4 d λa=>rv [a,(U 4)]) (lx 4 f 4 d <| ly 4 d λa=>rv [a,(U 0)]))
theorem M3:E3 142 MQ:=.f3
def Dt (a b c d:TV):RA X:=nl 17 a λa=>ck 187 [a,b,d] λa b=>sx 4 c a <| ly 4 c λa=>rv [a,b]
def qT (a:LB X) (b c d e f g h:TV):RA X:=cT 3 h g (jn (λ(i:TV)=>ba 3 h I1 λj=>a [b,c,d,i,f,g,j]) λa=>ia 2 f h λf=>lg 2 f λf=>al FI 0 λg=>sx 2 g f <| nl 26 (bw b) λf=>pl 1 g λg=>ia 4 f g λf=>lg 4 f λf=>bs 0 1 cE [(0,f)] λf=>ap true 4 32 2 e f λf=>a f) (Dt b c d e)
def Up (a b:TV):RA X:=al cE 0 λc=>np 0 (bw a) λd=>pl 3 d λd=>ia 3 d (bw b) λd=>lg 3 d λd=>al Bz 0 λe=>sx 3 e d <| np 0 (bw a) λd=>pl 4 d λd=>pl 1 e λf=>pl 1 e λg=>pl 2 e λe=>ba 3 g e λe=>sl 29 d (some f) (some e) none λd=>ln 29 d λe=>lp [0,1,4,6,30,31,32] (λk=>a7 (qT k)) [a,b,c,N0,d,e,I0]
def Ll:cL X:=aT [(122,[0,1,4,6,30,31,32],λ_ k=>a7 (qT k))]
theorem So:E2 143 Up:=.G2 @Ll λ_=>.s (.s (.s (.q (.lt λk1=>.l) .l)))
def MP (a b:TV):RA X:=bx 0 b λb=>np 0 (bw a) λc=>lg 9 c λc=>nl 17 (bw a) λd=>lg 4 b λb=>ck 188 [c,d,b] λb c=>uo .not c λc=>mf c (bw b) λd=>gf c (ln 9 d) λd=>mf c (bw a) λe=>gf c (nk e) λe=>gf c (pa 20 e) λe=>gf c (l1 e) λe=>gf c (ln 77 e) λe=>gf c (bj 3 (I 65536) e) λe=>gk c (bh 3 d e) λc=>br c (rt Bf) (np 20 a λc=>lt false 1 c λc=>ap false 1 1 0 c b λb=>bs 0 1 z5 [(0,(U 10))] λc=>ap false 1 1 0 b c λb=>np 20 (bw a) λa=>sx 1 a b <| rt Bt)
theorem LZ:E2 144 MP:=.f2
def Ds (a b c:TV):RA X:=ln 9 a λa=>ln 9 b λb=>HO 3 a b (cv 301 2 c λa=>af 190 [a] λa=>af 189 [a] λa=>af 191 [a] λa=>rv [a,I0]) (cv 301 2 c λa=>rv [a,I0])
def qS (a:LB X) (b c d e:TV):RA X:=ln 9 (bw c) λf=>cT 3 (bw e) f (jn (λ(f:TV)=>ba 3 e I1 λg=>a [b,c,f,g]) λa=>bo .mul 301 d (.v (.int .u64 10)) λf=>ix 9 (bw c) (bw e) λe=>cv 5 301 e λe=>ba 301 f e λe=>bj 301 e (.v (.int .u64 48)) λe=>a e) (Ds b c d)
def Dr (a b:TV):RA X:=ln 9 (bw a) λc=>ln 9 (bw b) λd=>bg 3 c d λc=>jn (λ(d:TV)=>ln 9 (bw b) λe=>ln 9 (bw d) λf=>bg 3 e f λe=>mf e (bw b) λf=>gf e (ln 9 f) λf=>mf e (bw d) λg=>gf e (ln 9 g) λg=>gf e (be 3 f g) λf=>mf e (bw f) λf=>mt f (bw b) λg=>mt f (bw d) λd=>gt f (bg 9 g d) λd=>gk e (pk f d Bf) λd=>br d (rv [I0,(I 14)]) (lp [0,4,7,8] (λk=>a4 (qS k)) [a,b,(.v (.int .u64 0)),I0])) λa=>br c (a (S [57,50,50,51,51,55,50,48,51,54,56,53,52,55,55,53,56,48,56])) (a (S [57,50,50,51,51,55,50,48,51,54,56,53,52,55,55,53,56,48,55]))
def qR (a:LB X) (b c d:TV):RA X:=ln 9 (bw c) λe=>cT 3 (bw d) e (jn (ba 3 d I1 λe=>a [b,c,e]) λa=>ix 9 (bw c) (bw d) λe=>bl 5 e (U 48) λe=>mf e (bw c) λf=>mf e (bw d) λd=>gf e (ix 9 f d) λd=>gk e (bg 5 d (U 57)) λd=>br d (rv [I0,(I 2)]) a) (Dr b c)
def Uo (a:TV):RA X:=ln 9 (bw a) λb=>bg 3 b I0 λb=>mt b (bw a) λc=>gt b (ix 9 c I0) λc=>gt b (be 5 c (U 45)) λc=>pk b c Bf λb=>jn (λ(c:TV)=>ln 9 (bw c) λd=>be 3 d I0 λd=>mf d (bw c) λe=>gf d (ix 9 e I0) λe=>gf d (be 5 e (U 48)) λe=>mf d (bw e) λe=>mt e (bw a) λf=>gt e (ln 9 f) λf=>gt e (bg 3 f I1) λf=>gk d (pk e f Bf) λd=>br d (rv [I0,(I 2)]) (lp [0,4,5] (λk=>a3 (qR k)) [a,c,I0])) λc=>br b (sl 9 (bw a) (some I1) none none λb=>c b) (c (bw a))
def Lk:cL X:=aT [(8186,[0,4,7,8],λ_ k=>a4 (qS k)),(250,[0,4,5],λ_ k=>a3 (qR k))]
theorem Sm:E1 145 Uo:=.G1 @Lk λ_=>.s (.s (.s (.s (.q (.lt λk1=>.l) (.s (.s (.s (.s (.q (.lt λk1=>.l) .l)))))))))
def Un (a:TV):RA X:=jn (rt (I (-1))) λb=>bh 5 (bw a) (U 48) λc=>mt c (bw a) λd=>gj c (bm 5 d (U 57)) λc=>br c (cv 5 3 a λc=>bj 3 c (I 48) λc=>rt c) (bh 5 (bw a) (U 97) λc=>mt c (bw a) λd=>gj c (bm 5 d (U 102)) λc=>br c (cv 5 3 a λc=>bj 3 c (I 87) λc=>rt c) (bh 5 (bw a) (U 65) λc=>mt c (bw a) λd=>gj c (bm 5 d (U 70)) λc=>br c (cv 5 3 a λa=>bj 3 a (I 55) λa=>rt a) b))
theorem Sl:E1 146 Un:=.f1
def HX (a:TV):RA X:=bx 0 a λa=>al z131 0 λb=>lc 6 a 66 λc=>al bS 0 λd=>sx 5 d c <| jn (lg 6 a λc=>ck 192 [c,I1] λc e=>sx 6 a e <| iq 6 0 (bw c) I0 λe=>lg 6 a λf=>af 67 [f,(S [61])] λf=>mt f (bw e) λg=>gt f (be 5 g (U 26)) λg=>mt f (bw g) λg=>mf g (bw e) λh=>gf g (be 5 h (U 28)) λh=>gt f (pk g Bt h) λg=>mt f (bw g) λg=>mf g (bw e) λh=>gf g (be 5 h (U 29)) λh=>gj f (pk g Bt h) λf=>br f (lg 6 a λf=>af 103 [f,(S [61])] λf=>ck 192 [f,I1] λf g=>al z131 0 λh=>sx 6 h g <| lg 5 d λg=>lg 6 h λi=>sv λj k=>af 110 [c,f] λf=>rc [rm 5 d g j k,rm 6 h i j k] <| sv λj k=>af 71 [(U 8),g,(S []),I0,f] λf=>rc [rm 6 h i j k] <| cx 103 [i,(S [59])] 6 b <| ly 6 b λg=>rv [f,g]) (lg 6 a λf=>af 67 [f,(S [61])] λf=>gf f (lg 6 a) λg=>gf f (af 67 [g,(S [59])]) λg=>mf f (bw g) λg=>mt g (bw e) λe=>gt g (bn 5 e (U 27)) λe=>gk f (pk g e Bf) λe=>jn (lg 5 d λf=>lg 6 a λg=>sv λj k=>af 71 [(U 13),f,(S []),I0,c] λc=>rc [rm 6 a g j k] <| cx 103 [g,(S [59])] 6 b <| ly 6 b λf=>rv [c,f]) λc=>br e (lg 6 a λe=>cx 70 [e,(I 5)] 6 a <| c) c)) λc=>lg 6 a λe=>af 67 [e,(S [118,97,114])] λe=>br e (lg 6 a λe=>af 103 [e,(S [118,97,114])] λe=>ck 104 [e,(U 1)] λe f=>al bS 0 λg=>al z131 0 λh=>sx 5 g e <| sx 6 h f <| lg 6 h λe=>af 103 [e,(S [58])] λe=>ck 108 [e] λe f=>sx 6 h f <| lg 6 h λf=>af 103 [f,(S [61])] λf=>ck 192 [f,I1] λf i=>sx 6 h i <| lg 5 d λi=>pa 4 g λg=>l1 g λl=>lg 6 h λm=>sv λj k=>af 110 [e,f] λe=>rc [rm 5 d i j k,rn g l j k,rm 6 h m j k] <| sv λj k=>af 71 [(U 7),i,l,I0,e] λe=>rc [rm 6 h m j k] <| cx 103 [m,(S [59])] 6 b <| ly 6 b λf=>rv [e,f]) (lg 6 a λe=>af 67 [e,(S [105,102])] λe=>br e (lg 6 a λe=>af 103 [e,(S [105,102])] λe=>ck 192 [e,I1] λe f=>al z131 0 λg=>sx 6 g f <| lg 6 g λf=>ck 109 [f] λf h=>sx 6 g h <| af 110 [e,f] λe=>lg 6 g λf=>af 67 [f,(S [101,108,115,101])] λf=>jn (λ(h:TV)=>lg 5 d λi=>lg 6 g λl=>sv λj k=>af 71 [(U 9),i,(S []),I0,h] λh=>rc [rm 6 g l j k] <| sx 6 b l <| ly 6 b λi=>rv [h,i]) λj=>br f (lg 6 g λf=>af 103 [f,(S [101,108,115,101])] λf=>ck 109 [f] λf h=>sx 6 g h <| af 110 [e,f] λf=>j f) (j e)) (lg 6 a λe=>af 67 [e,(S [119,104,105,108,101])] λe=>br e (lg 6 a λe=>af 103 [e,(S [119,104,105,108,101])] λe=>ck 192 [e,I1] λe f=>al z131 0 λg=>sx 6 g f <| lg 6 g λf=>ck 109 [f] λf h=>sx 6 g h <| lg 5 d λh=>lg 6 g λi=>sv λj k=>af 110 [e,f] λe=>rc [rm 5 d h j k,rm 6 g i j k] <| sv λj k=>af 71 [(U 10),h,(S []),I0,e] λe=>rc [rm 6 g i j k] <| sx 6 b i <| ly 6 b λf=>rv [e,f]) (lg 6 a λe=>af 67 [e,(S [114,101,116,117,114,110])] λe=>br e (lg 6 a λe=>af 103 [e,(S [114,101,116,117,114,110])] λe=>al z131 0 λf=>sx 6 f e <| bs 0 0 dv [] λe=>lg 6 f λg=>af 67 [g,(S [59])] λg=>uo .not g λg=>jn (λ(h:TV)=>lg 5 d λi=>lg 6 f λl=>sv λj k=>af 71 [(U 11),i,(S []),I0,h] λh=>rc [rm 6 f l j k] <| cx 103 [l,(S [59])] 6 b <| ly 6 b λi=>rv [h,i]) λh=>br g (lg 6 f λg=>ck 192 [g,I1] λg i=>sx 6 f i <| h g) (h e)) (lg 6 a λe=>af 67 [e,(S [112,114,105,110,116])] λe=>br e (lg 6 a λa=>af 103 [a,(S [112,114,105,110,116])] λa=>ck 192 [a,I1] λa e=>al z131 0 λf=>sx 6 f e <| lg 5 d λd=>lg 6 f λe=>sv λj k=>af 71 [(U 12),d,(S []),I0,a] λa=>rc [rm 6 f e j k] <| cx 103 [e,(S [59])] 6 b <| ly 6 b λb=>rv [a,b]) c))))
theorem Sk:E1 147 HX:=.f1
def vh (a b:TV):RA X:=kE 3 b (bw a) (rt (I (-1))) (rt a)
def qQ (a:LB X) (b c d:TV):RA X:=bh 3 (bw d) I0 λe=>mt e (bw d) λf=>mt e (bw c) λg=>gj e (bl 3 f g) λe=>br e (af 148 [(bw b),d] λe=>a [b,c,e]) (vh c d)
def Um (a b:TV):RA X:=ln 25 (bw a) λc=>bh 3 (bw b) c λc=>mf c (bw a) λd=>mf c (bw b) λe=>gf c (ia 6 d e) λd=>gf c (pa 3 d) λd=>gf c (l1 d) λd=>gk c (bl 3 d I0) λc=>mf c (bw a) λd=>mf c (bw b) λe=>gf c (ia 6 d e) λd=>gf c (pa 3 d) λd=>gf c (l1 d) λd=>mf c (bw a) λe=>gf c (ln 25 e) λe=>gf c (bj 3 e I1) λe=>mf c (bw b) λf=>gf c (bj 3 e f) λe=>gk c (bg 3 d e) λc=>br c (rt (I (-1))) (ba 3 (bw b) I1 λc=>iq 6 3 (bw a) (bw b) λd=>ba 3 c d λc=>ba 3 b I1 λb=>lp [0,5,6] (λk=>a3 (qQ k)) [a,c,b])
def Lj:cL X:=aT [(124,[0,5,6],λ_ k=>a3 (qQ k))]
theorem Sj:E2 148 Um:=.G2 @Lj λ_=>.s (.s (.s (.s (.seq (.block (.lt λk1=>.l)) .l))))
def Ul (a:TV):RA X:=af 193 [a,(U 2)] λa=>rt a
theorem Si:E1 149 Ul:=.f1
def Uk (a:TV):RA X:=af 193 [a,(U 1)] λa=>rt a
theorem Sh:E1 150 Uk:=.f1
def Uj (a:TV):RA X:=bx 0 a λa=>jn (rt (U 45)) λb=>pl 0 a λc=>aE 5 c (U 14) (rt (U 48)) (pl 0 a λc=>bh 5 c (U 15) λc=>gt c (pa 0 a) λd=>gt c (l1 d) λd=>gj c (bm 5 d (U 20)) λc=>br c (rt (U 116)) (pl 0 a λc=>bh 5 c (U 21) λc=>gt c (pa 0 a) λd=>gt c (l1 d) λd=>gj c (bm 5 d (U 32)) λc=>br c (rt (U 101)) (pl 0 a λc=>bh 5 c (U 7) λc=>gt c (pa 0 a) λd=>gt c (l1 d) λd=>gj c (bm 5 d (U 13)) λc=>br c (rt (U 115)) (pl 0 a λc=>aE 5 c (U 6) (rt (U 98)) (pl 0 a λc=>aE 5 c (U 5) (rt (U 112)) (pl 0 a λc=>aE 5 c (U 3) (rt (U 102)) (pl 0 a λc=>be 5 c (U 2) λc=>gf c (pa 0 a) λa=>gf c (l1 a) λa=>gk c (be 5 a (U 4)) λa=>br a (rt (U 100)) b)))))))
theorem Sf:E1 151 Uj:=.f1
def Dq:RA X:=rt Bt
def uC (a:LB X) (b c d:TV):RA X:=ln 9 (bw b) λe=>cT 3 (bw d) e (jn (ba 3 d I1 λe=>a [b,c,e]) λa=>ix 9 (bw b) (bw d) λb=>kE 5 b (bw c) (rt Bf) a) (Dq)
def Ui (a b:TV):RA X:=lp [0,1,5] (λk=>a3 (uC k)) [a,b,I0]
def Li:cL X:=aT [(26,[0,1,5],λ_ k=>a3 (uC k))]
theorem Se:E2 152 Ui:=.G2 @Li λ_=>.s (.q (.lt λk1=>.l) .l)
def Dp (a b c:TV):RA X:=bu z156 mE [(0,(U 7)),(1,b)] λb=>bs 0 1 z156 [(0,b)] λb=>ap false 2 16 0 c b λb=>ln 27 a λa=>rv [b,a]
def uB (a:LB X) (b c d e f:TV):RA X:=cT 3 f e (jn (ba 3 f I1 λg=>a [b,c,d,e,g]) λa=>iq 2 0 (bw b) (bw (bw f)) λe=>be 5 e (U 7) λe=>mt e (bw b) λg=>mt e (bw (bw f)) λh=>gt e (ia 2 g h) λg=>gt e (pa 1 g) λg=>gt e (l1 g) λg=>mt e (bw c) λh=>gj e (be 3 g h) λe=>br e (rv [d,(bw f)]) a) (Dp b c d)
def Uh (a b:TV):RA X:=bs 0 0 z156 [] λc=>ap false 2 16 0 c (bw a) λc=>bl 3 (bw b) I1 λd=>mf d (bw b) λe=>mf d (bw a) λf=>gf d (ln 27 f) λf=>gk d (bh 3 e f) λd=>mf d (bw b) λe=>gk d (be 3 e (I 5)) λd=>br d (rv [c,I0]) (ln 27 (bw a) λd=>lp [0,1,6,26,27] (λk=>a5 (uB k)) [a,b,c,d,I0])
def Lh:cL X:=aT [(250,[0,1,6,26,27],λ_ k=>a5 (uB k))]
theorem Sd:E2 153 Uh:=.G2 @Lh λ_=>.s (.s (.s (.s (.q (.lt λk1=>.l) .l))))
def Dn (a b:TV):RA X:=rv [a,b]
def uA (a:LB X) (b c d e:TV):RA X:=cT 3 (bw e) (bw c) (jn (λ(f:TV) (g:TV)=>ba 3 e I1 λe=>a [f,c,g,e]) λa=>ck 153 [b,d] λc e=>a c e) (Dn b d)
def Ug (a b c:TV):RA X:=bs 0 0 z156 [] λd=>ap false 2 16 0 d (bw a) λd=>af 194 [(bw c)] λe=>uo .not e λe=>br e (rv [d,I0]) (ln 25 (bw c) λe=>bj 3 e I1 λe=>ia 6 c (bw e) λc=>lg 6 c λc=>af 195 [a,b,c] λa=>aE 3 (bw a) I0 (rv [d,I0]) (lp [8,9,10,11] (λk=>a4 (uA k)) [d,e,a,I0]))
def Lg:cL X:=aT [(2042,[8,9,10,11],λ_ k=>a4 (uA k))]
theorem Sc:E3 154 Ug:=.G3 @Lg λ_=>.s (.s (.s (.s (.s (.s (.s (.q (.lt λk1=>.l) .l)))))))
def Dm (a b c:TV):RA X:=ly 13 b λb=>sx 13 c b <| ly 13 c λb=>rv [a,b]
def uz (a:LB X) (b c d e f g h:TV):RA X:=cT 3 h g (jn (ba 3 h I1 λi=>a [b,c,d,e,f,g,i]) λa=>lc 13 d 74 λg=>br g (ly 13 d λg=>sx 13 e g <| ly 13 e λg=>rv [c,g]) (pq 0 0 d λg=>il 1 (bw f) (bw (bw h)) λi=>iq 6 0 g i λg=>aE 5 g (U 6) (ly 13 d λg=>il 1 (bw f) (bw h) λi=>cl 121 [g,(bw b),(bw c),i] λg=>sx 13 d g <| a) (ly 13 d λg=>il 1 (bw f) (bw h) λf=>cl 196 [g,(bw b),(bw c),f] λb=>sx 13 d b <| a))) (Dm c d e)
def Dl (a b c d e f g h i:TV):RA X:=pq 0 5 e λj=>iq 8 5 j (bw a) λj=>bh 3 j (I 200) λj=>jn (lc 13 e 74 λk=>br k (ly 13 e λk=>sx 13 f k <| ly 13 f λk=>rv [b,k]) (ly 13 e λk=>pq 0 5 e λl=>iq 8 5 l (bw a) λl=>bu gJ kD [(0,(bw i)),(1,l),(2,h)] λh=>cl 116 [k,d,h] λh=>sx 13 e h <| ly 13 e λh=>pl 5 g λg=>pq 0 8 e λk=>ln 33 k λk=>cl 120 [h,a,b,g,i,c,k] λa=>ey a λa b=>sx 13 f b <| ly 13 f λb=>rv [a,b])) λa=>br j (ly 13 e λb=>cl 77 [b,(I 13),(bw d)] λb=>sx 13 e b <| a) a
def uy (a:LB X) (b c d e f g h i j k l:TV):RA X:=cT 3 l k (jn (ba 3 l I1 λm=>a [b,c,d,e,f,g,h,i,j,k,m]) λa=>iq 4 0 (bw c) (bw (bw l)) λk=>pl 5 h λm=>be 9 k m λk=>mt k (bw c) λm=>mt k (bw (bw l)) λl=>gt k (ia 4 m l) λl=>gt k (pa 2 l) λl=>gt k (l1 l) λl=>mt k (bw d) λm=>gj k (be 3 l m) λk=>br k (ly 13 f λk=>cl 77 [k,(I 7),(bw e)] λk=>sx 13 f k <| a) a) (Dl b c d e f g h i j)
def MO (a b c d e:TV):RA X:=bx 0 a λa=>al bR 0 λf=>pq 0 0 a λg=>ia 6 g (bw e) λg=>lg 6 g λg=>al dv 0 λh=>sx 6 h g <| pq 0 8 a λg=>ln 33 g λg=>pp 0 8 a λi=>lt false 1 i λi=>pl 1 h λj=>pl 2 h λl=>bu NQ cM [(0,(bw b)),(1,(bw e)),(2,j),(3,l)] λj=>bs 0 1 NQ [(0,j)] λj=>ap false 4 32 0 i j λi=>pp 0 8 a λj=>sx 1 j i <| ly 13 a λi=>bu gJ kD [(2,(bw g))] λj=>cl 116 [i,(bw e),j] λi=>sx 13 a i <| pq 0 0 a λi=>af 49 [i,(bw e)] λi=>pl 0 h λj=>kE 5 j (U 7) (ln 31 (bw i) λj=>lp [1,2,5,11,14,56,57] (λk=>a7 (uz k)) [b,c,a,f,i,j,I0]) (ly 13 a λj=>il 1 (bw i) I0 λl=>cl 118 [j,l] λj=>ey j λj l=>sx 13 a l <| lc 13 a 74 λl=>uo .not l λl=>jn (ln 218 (bw c) λm=>lp [1,2,3,4,5,11,12,13,16,113,114] (λk=>JD (uy k)) [b,c,d,e,a,f,h,g,j,m,I0]) λd=>br l (ly 13 a λe=>il 1 i I1 λf=>cl 196 [e,(bw b),(bw c),f] λb=>sx 13 a b <| d) d)
def Lf:cL X:=aT [(8146,[1,2,5,11,14,56,57],λ_ k=>a7 (uz k)),(8186,[1,2,3,4,5,11,12,13,16,113,114],λ_ k=>JD (uy k))]
theorem LY:E5 155 MO:=.G5 @Lf λ_=>.s (.s (.s (.s (.s (.s (.seq (.s (.cond (.q (.lt λk1=>.l) .l) .l)) (.s (.s (.q (.lt λk1=>.l) .l)))))))))
def Dk (a b c:TV):RA X:=lx 16 a 16 b <| ly 16 b λa=>rv [c,a]
def ux (a:LB X) (b c d e f g h i:TV):RA X:=cT 3 i h (jn (ba 3 i I1 λj=>a [b,c,d,e,f,g,h,j]) λa=>lg 16 b λh=>lg 16 b λj=>il 1 (bw e) (bw (bw i)) λe=>ix 9 (bw f) (bw (bw i)) λf=>ia 1 (bw d) (bw i) λd=>l1 d λi=>sv λk l=>af 198 [j,e,f] λe=>rc [rm 16 b h k l,rn d i k l] <| cx 123 [h,e,i] 16 b <| a) (Dk b c g)
def Dj (a b c:TV):RA X:=pl 3 c λc=>lx 16 a 16 b <| ly 16 b λa=>rv [c,a]
def uw (a:LB X) (b c d e f g h:TV):RA X:=cT 3 h g (jn (ba 3 h I1 λi=>a [b,c,d,e,f,g,i]) λa=>lg 16 b λg=>lg 16 b λi=>il 1 (bw e) (bw (bw h)) λe=>pq 2 6 b λj=>pl 4 f λk=>ba 3 k (bw (bw h)) λk=>il 1 j k λj=>ia 1 (bw d) (bw h) λd=>l1 d λh=>sv λk l=>af 124 [i,e,j] λe=>rc [rm 16 b g k l,rn d h k l] <| cx 123 [g,e,h] 16 b <| a) (Dj b c f)
def Di (a b c d e:TV):RA X:=pq 12 0 b λf=>kE 41 f I0 (lx 16 b 16 c <| ly 16 c λf=>rv [I0,f]) (pl 1 b λf=>iq 3 1 f (bw a) λf=>cT 3 (bw f) I0 (uo .neg f λg=>ck 197 [g] λg h=>ln 9 (bw g) λi=>ln 31 (bw d) λj=>kE 3 i j (lg 16 b λi=>cx 51 [i,(I 10),a] 16 c <| ly 16 c λi=>rv [I0,i]) (ln 31 (bw d) λi=>lp [2,5,6,7,12,13,70,71] (λk=>a8 (ux k)) [b,c,d,e,g,h,i,I0])) (pq 2 5 b λg=>ia 8 g f λf=>lg 8 f λf=>al qL 0 λg=>sx 8 g f <| pl 2 g λf=>ln 31 (bw d) λh=>kE 3 f h (lg 16 b λf=>cx 51 [f,(I 10),a] 16 c <| ly 16 c λa=>rv [I0,a]) (ln 31 (bw d) λa=>lp [2,5,6,7,15,107,108] (λk=>a7 (uw k)) [b,c,d,e,g,a,I0])))
def uv (a:LB X) (b c d e f g h:TV):RA X:=cT 3 h g (jn (λ(i:TV)=>ba 3 h I1 λj=>a [b,c,d,e,i,g,j]) λa=>lg 16 c λg=>il 1 (bw e) (bw h) λh=>al ek 0 λi=>ck 122 [g,h] λg h=>sx 16 i h <| lx 16 i 16 c <| bs 0 1 z3 [(0,g)] λg=>ap false 1 8 0 f g λg=>a g) (Di b c d e f)
def Uf (a b:TV):RA X:=bx 0 a λa=>al ek 0 λc=>pl 0 a λd=>af 49 [d,(bw b)] λd=>bs 0 0 z3 [] λe=>ln 31 (bw d) λf=>lp [1,2,5,6,7,23,24] (λk=>a7 (uv k)) [b,a,c,d,e,f,I0]
def Ld:cL X:=aT [(32602,[2,5,6,7,12,13,70,71],λ_ k=>a8 (ux k)),(8186,[2,5,6,7,15,107,108],λ_ k=>a7 (uw k)),(122,[1,2,5,6,7,23,24],λ_ k=>a7 (uv k))]
theorem Sb:E2 156 Uf:=.G2 @Ld λ_=>.s (.s (.s (.q (.lt λk1=>.l) (.s (.s (.seq (.s (.cond (.s (.s (.q (.lt λk1=>.l) .l))) .l)) (.s (.s (.q (.lt λk1=>.l) .l)))))))))
def Ue (a b:TV):RA X:=bx 0 a λa=>pl 11 a λa=>iq 2 0 a b λa=>rt a
theorem Sa:E2 157 Ue:=.f2
def Dh (a b c:TV):RA X:=lg 16 b λb=>cx 51 [b,(I 8),a] 16 c <| ly 16 c λa=>rv [I0,a]
def uu (a:LB X) (b c d e f:TV):RA X:=pl 2 e λg=>cT 3 (bw f) g (jn (ba 3 f I1 λg=>a [b,c,d,e,g]) λa=>pq 2 4 c λg=>pl 1 e λe=>ba 3 e (bw f) λe=>ia 2 g e λe=>lg 2 e λe=>al FI 0 λg=>sx 2 g e <| pl 0 g λe=>pl 0 c λh=>iq 6 5 h (bw b) λh=>aE 9 e h (bs 0 0 gJ [] λe=>pl 1 c λh=>ap false 3 24 1 e h λe=>ip 3 1 (bw e) b λh=>sx 1 h f <| fz e λe=>px 1 c 1 e <| pl 1 g λe=>lx 16 c 16 d <| ly 16 d λf=>rv [e,f]) a) (Dh b c d)
def Ud (a b c:TV):RA X:=bx 0 a λa=>al ek 0 λd=>lg 16 a λe=>ck 122 [e,(bw c)] λe f=>sx 16 a f <| pq 12 0 a λf=>bn 41 f I0 λf=>gf f (lg 16 a) λg=>mf f (bw e) λh=>gf f (af 157 [g,h]) λg=>gk f (bn 5 g (U 6)) λf=>br f (lg 16 a λf=>cx 51 [f,(I 9),c] 16 d <| ly 16 d λc=>rv [I0,c]) (pq 2 3 a λc=>pl 11 a λf=>iq 2 1 f e λe=>ia 3 c e λc=>lg 3 c λc=>al Bz 0 λe=>sx 3 e c <| lp [1,3,7,9,10] (λk=>a5 (uu k)) [b,a,d,e,I0])
def Lc:cL X:=aT [(250,[1,3,7,9,10],λ_ k=>a5 (uu k))]
theorem S9:E3 158 Ud:=.G3 @Lc λ_=>.s (.s (.s (.s (.q (.lt λk1=>.l) .l))))
def Uc (a b c d:TV):RA X:=bx 0 a λa=>lg 16 a λe=>af 157 [e,(bw c)] λe=>lg 16 a λf=>af 157 [f,(bw d)] λf=>jn (rt I0) λg=>be 2 (bw b) (I 6) λh=>mf h (bw b) λi=>gk h (be 2 i (I 7)) λh=>br h (bh 5 (bw e) (U 5) λh=>mt h (bw f) λi=>gj h (bh 5 i (U 5)) λh=>br h (bn 5 e (U 5) λe=>mf e (bw f) λf=>gk e (bn 5 f (U 5)) λe=>gt e (lg 16 a) λf=>mt e (bw c) λh=>mt e (bw d) λi=>gt e (af 124 [f,h,i]) λf=>mt e (bw f) λf=>gf f (lg 16 a) λa=>mf f (bw d) λh=>mf f (bw c) λi=>gf f (af 124 [a,h,i]) λa=>gj e (pk f Bt a) λa=>br a (rt (I 2)) (rt I0)) (be 3 (bw c) d λa=>mt a (bw c) λe=>gj a (bg 3 e I0) λa=>br a (rt (I 2)) g)) (kE 3 (bw c) d (rt I0) (be 2 (bw b) (I 14) λa=>mf a (bw b) λd=>gk a (be 2 d (I 15)) λa=>br a (aE 3 c (I 2) (rt (I 2)) g) (Tf 2 (bw b) (I 8) (aE 3 c I1 (rt (I 2)) g) (aE 3 (bw c) I1 (rt I1) (be 3 (bw c) (I 4) λa=>mt a (bw b) λd=>gj a (bm 2 d (I 3)) λa=>br a (rt (I 4)) (be 3 c (I 3) λa=>mt a (bw b) λb=>gj a (be 2 b I1) λa=>br a (rt (I 3)) g))))))
theorem S8:E4 159 Uc:=.f4
def Ub (a b c:TV):RA X:=bx 0 a λa=>al ek 0 λd=>bs 0 0 gJ [] λe=>pl 1 a λf=>ap false 3 24 1 e f λe=>ip 3 0 (bw e) b λb=>sx 1 b c <| fz e λb=>px 1 a 1 b <| lx 16 a 16 d <| lr 16 d
theorem S7:E3 160 Ub:=.f3
def Ua (a b c:TV):RA X:=bl 3 (bw b) I0 λd=>mf d (bw c) λe=>gk d (bl 3 e I0) λd=>mf d (bw b) λe=>mf d (bw a) λf=>gf d (ln 27 f) λf=>gk d (bh 3 e f) λd=>mf d (bw c) λe=>mf d (bw a) λf=>gf d (ln 27 f) λf=>gk d (bh 3 e f) λd=>br d (rt Bf) (be 3 (bw b) (I 5) λd=>mt d (bw a) λe=>mt d (bw c) λf=>gt d (ia 2 e f) λe=>gt d (pa 0 e) λe=>gt d (l1 e) λe=>gt d (be 5 e (U 6)) λe=>mt d (bw e) λe=>mf e (bw a) λa=>mf e (bw c) λf=>gf e (ia 2 a f) λa=>gf e (pa 0 a) λa=>gf e (l1 a) λa=>gf e (be 5 a (U 7)) λa=>gj d (pk e Bt a) λa=>br a (rt Bt) (be 3 b c λa=>rt a))
theorem S6:E3 161 Ua:=.f3
def MN (a b:TV):RA X:=nl 13 (bw a) λc=>lk 115 true c (bw b) λc=>ey c λc d=>uo .not d λd=>jn (λ(e:TV)=>rt e) λe=>br d (np 9 (bw a) λd=>pl 2 d λd=>ln 68 d λd=>nl 13 (bw a) λf=>mu 115 f (bw b) (bw d) λ_=>np 9 a λf=>pa 2 f λf=>lt false 1 f λf=>bs 0 1 z9 [(0,b)] λb=>ap false 1 16 0 f b λb=>np 9 (bw a) λa=>px 2 a 1 b <| e d) (e c)
theorem LW:E2 163 MN:=.f2
def MM (a:TV):RA X:=bx 0 a λa=>pl 0 a λb=>aE 5 b (U 3) (pl 2 a λb=>ln 9 b λb=>ba 3 b (I 7) λb=>bo .quo 3 b (I 8) λb=>ba 3 I1 b λb=>rt b) (pl 3 a λa=>ln 79 a λa=>ba 3 I1 a λa=>rt a)
theorem S5:E1 164 MM:=.f1
def U9 (a:TV):RA X:=al cE 0 λb=>bu cE cM [(0,(U 1)),(1,a)] λa=>sx 4 b a <| lr 4 b
theorem S4:E1 165 U9:=.f1
def U8 (a:TV):RA X:=uo .neg a λa=>rt a
theorem S2:E1 166 U8:=.f1
def U7 (a:TV):RA X:=bx 0 a λa=>al cE 0 λb=>pl 0 a λc=>pl 1 a λa=>bu cE cM [(0,(U 4)),(2,c),(3,a)] λa=>sx 4 b a <| lr 4 b
theorem RY:E1 167 U7:=.f1
def U6 (a:TV):RA X:=bx 0 a λa=>al pI 0 λb=>lc 2 a 200 λa=>uo .neg a λa=>cx 199 [a] 2 b <| lr 2 b
theorem RX:E1 168 U6:=.f1
def U5 (a:TV):RA X:=bx 0 a λa=>al pI 0 λb=>pl 2 a λc=>pl 3 a λa=>cx 180 [c,a] 2 b <| lr 2 b
theorem RV:E1 169 U5:=.f1
def U4 (a:TV):RA X:=al cE 0 λb=>br a (bu cE cM [(0,(U 2)),(1,I1)] λa=>sx 4 b a <| lr 4 b) (bu cE cM [(0,(U 2))] λa=>sx 4 b a <| lr 4 b)
theorem RU:E1 170 U4:=.f1
def HW (a:TV):RA X:=bx 0 a λa=>pl 0 a λb=>be 5 b (U 5) λb=>gf b (pa 0 a) λc=>gf b (l1 c) λc=>gk b (be 5 c (U 6)) λb=>gf b (pa 0 a) λa=>gf b (l1 a) λa=>gk b (be 5 a (U 7)) λa=>rt a
theorem HI:E1 171 HW:=.f1
def HV (a b:TV):RA X:=al cE 0 λc=>jn (bu cE cM [] λd=>sx 4 c d <| ly 4 c λd=>rv [d,Bf]) λd=>aE 2 a (I 6) (cx 170 [b] 4 c <| ly 4 c λe=>rv [e,Bt]) (aE 2 a (I 7) (uo .not b λa=>cx 170 [a] 4 c <| ly 4 c λa=>rv [a,Bt]) d)
theorem HH:E2 172 HV:=.f2
def kZ (a b c:TV):RA X:=al cE 0 λd=>af 201 [(bw b),(bw c)] λe=>jn (λ(f:TV) (g:TV)=>uo .not f λf=>br f (bu cE cM [] λf=>sx 4 d f <| ly 4 d λf=>rv [f,(U 1),Bt]) (cx 165 [g] 4 d <| ly 4 d λf=>rv [f,(U 0),Bt])) λf=>aE 2 a I1 (af 202 [b,c] λg=>f Bt g) (aE 2 a (I 2) (af 203 [b,c] λg=>f Bt g) (aE 2 a (I 3) (af 204 [b,c] λg=>f Bt g) (aE 2 a (I 4) (ck 205 [b,c] λg h=>f h g) (aE 2 a (I 5) (ck 206 [b,c] λb c=>f c b) (aE 2 a (I 8) (bl 3 e I0 λb=>cx 170 [b] 4 d <| ly 4 d λb=>rv [b,(U 0),Bt]) (aE 2 a (I 9) (bm 3 e I0 λb=>cx 170 [b] 4 d <| ly 4 d λb=>rv [b,(U 0),Bt]) (aE 2 a (I 10) (bg 3 e I0 λb=>cx 170 [b] 4 d <| ly 4 d λb=>rv [b,(U 0),Bt]) (aE 2 a (I 11) (bh 3 e I0 λb=>cx 170 [b] 4 d <| ly 4 d λb=>rv [b,(U 0),Bt]) (aE 2 a (I 6) (be 3 e I0 λb=>cx 170 [b] 4 d <| ly 4 d λb=>rv [b,(U 0),Bt]) (aE 2 a (I 7) (bn 3 e I0 λa=>cx 170 [a] 4 d <| ly 4 d λa=>rv [a,(U 0),Bt]) (bu cE cM [] λa=>sx 4 d a <| ly 4 d λa=>rv [a,(U 0),Bf])))))))))))
theorem kW:E3 173 kZ:=.f3
def F8 (a b c:TV):RA X:=bx 0 b λb=>bx 0 c λc=>al cE 0 λd=>jn (lg 2 b λe=>lg 2 c λf=>be 270 e f λe=>ck 172 [a,e] λe f=>sx 4 d e <| ly 4 d λe=>rv [e,f]) λe=>aE 2 (bw a) I1 (lg 2 b λf=>lg 2 c λg=>af 207 [f,g] λf=>cx 167 [f] 4 d <| ly 4 d λf=>rv [f,Bt]) (aE 2 (bw a) (I 2) (lg 2 b λf=>lg 2 c λg=>af 208 [f,g] λf=>cx 167 [f] 4 d <| ly 4 d λf=>rv [f,Bt]) (aE 2 (bw a) (I 3) (lg 2 b λa=>lg 2 c λb=>af 209 [a,b] λa=>cx 167 [a] 4 d <| ly 4 d λa=>rv [a,Bt]) e))
theorem ED:E3 174 F8:=.f3
def F7 (a b:TV):RA X:=bx 0 b λb=>lg 4 b λc=>af 185 [(bw a),c] λc=>jn (np 0 c λd=>pl 2 d λd=>rv [d,Bt]) λd=>bn 75 a Vn λa=>gt a (lg 4 b) λe=>gj a (af 210 [e]) λa=>br a (rv [(S []),Bt]) (be 162 (bw c) Vn λa=>gf a (pa 0 b) λb=>gf a (l1 b) λb=>gk a (bn 5 b (U 3)) λa=>br a (rv [(S []),Bf]) d)
theorem RR:E2 175 F7:=.f2
def U3 (a b:TV):RA X:=al cE 0 λc=>ck 91 [a,b] λa b=>al cE 0 λd=>sx 4 d a <| uo .not b λa=>br a (bu cE cM [] λa=>sx 4 c a <| ly 4 c λa=>rv [a,(U 4),Bt]) (lx 4 d 4 c <| ly 4 c λa=>rv [a,(U 0),Bt])
theorem RN:E2 176 U3:=.f2
def U2 (a:TV):RA X:=jn (rv [N0,Bf]) λb=>be 3 a I1 λc=>jn (λ(d:TV)=>br d (bs 0 1 z5 [(0,(U 0))] λd=>rv [d,Bt]) (be 3 a (I 3) λd=>jn (λ(e:TV)=>br e (bs 0 1 z5 [(0,(U 4))] λe=>rv [e,Bt]) (aE 3 a (I 5) (bs 0 2 z5 [(0,(U 1)),(1,(U 1))] λe=>rv [e,Bt]) (be 3 a (I 6) λe=>jn (λ(f:TV)=>br f (bs 0 1 z5 [(0,(U 1))] λf=>rv [f,Bt]) (aE 3 a (I 7) (rv [N0,Bt]) b)) λb=>br e (b e) (be 3 a (I 8) λe=>b e)))) λb=>br d (b d) (be 3 a (I 4) λd=>b d))) λb=>br c (b c) (be 3 a (I 2) λa=>b a)
theorem RM:E1 177 U2:=.f1
def vZ (a b:TV):RA X:=bx 0 b λb=>al cE 0 λc=>pl 0 b λd=>jn (bu cE cM [] λe=>sx 4 c e <| ly 4 c λe=>rv [e,(U 0),Bf]) λe=>aE 5 d (U 5) (bu cE cM [] λf=>sx 4 c f <| ly 4 c λf=>rv [f,(U 3),Bt]) (be 5 d (U 3) λf=>jn (λ(g:TV)=>br g (lg 4 b λb=>ck 184 [a,b] λa b=>kE 5 (bw b) (U 0) (bu cE cM [] λg=>sx 4 c g <| ly 4 c λg=>rv [g,b,Bt]) (cx 165 [a] 4 c <| ly 4 c λa=>rv [a,(U 0),Bt])) e) λa=>br f (a f) (be 5 d (U 7) λb=>a b))
theorem EC:E2 178 vZ:=.f2
def F6 (a b:TV):RA X:=bx 0 b λb=>al cE 0 λc=>pl 0 b λd=>jn (bu cE cM [] λe=>sx 4 c e <| ly 4 c λe=>rv [e,(U 0),Bf]) λe=>aE 5 d (U 1) (pl 1 b λf=>af 211 [f] λf=>af 176 [a,f] λf=>ey f λg h=>ex 2 (ct 1 (ct 0 f)) λf=>sx 4 c g <| ly 4 c λg=>rv [g,h,f]) (aE 5 d (U 2) (pl 1 b λf=>bn 2 f I0 λf=>af 212 [f] λf=>af 176 [a,f] λf=>ey f λg h=>ex 2 (ct 1 (ct 0 f)) λf=>sx 4 c g <| ly 4 c λg=>rv [g,h,f]) (aE 5 d (U 4) (lc 4 b 169 λb=>af 213 [b] λb=>af 176 [a,b] λa=>ey a λb d=>ex 2 (ct 1 (ct 0 a)) λa=>sx 4 c b <| ly 4 c λb=>rv [b,d,a]) e))
theorem EB:E2 179 F6:=.f2
def U1 (a b:TV):RA X:=al pI 0 λc=>af 214 [a] λa=>af 214 [b] λb=>bu pI mE [(0,a),(1,b)] λa=>sx 2 c a <| lr 2 c
theorem RJ:E2 180 U1:=.f2
def F5 (a b:TV):RA X:=jn (nl 1 (bw a) λc=>nl 3 (bw a) λd=>il 1 c d λc=>bo .rem 2 c (bw b) λc=>nl 3 a λd=>ba 3 d I1 λd=>np 3 a λe=>sx 1 e d <| bl 2 (bw c) I0 λd=>jn (λ(e:TV)=>rv [e,(U 0)]) λe=>br d (ba 2 c b λd=>e d) (e c)) λc=>cT 2 (bw b) I1 (rv [I0,(U 1)]) (be 76 (bw a) Vn λb=>mf b (bw a) λd=>gf b (nk d) λd=>gf b (pa 3 d) λd=>gf b (l1 d) λd=>mf b (bw a) λa=>gf b (nk a) λa=>gf b (pa 1 a) λa=>gf b (l1 a) λa=>gf b (ln 22 a) λa=>gk b (be 3 d a) λa=>br a (rv [I0,(U 6)]) c)
theorem EA:E2 181 F5:=.f2
def ML (a:TV):RA X:=be 76 (bw a) Vn λb=>mf b (bw a) λc=>gf b (nk c) λc=>gf b (pa 2 c) λc=>gf b (l1 c) λc=>mf b (bw a) λd=>gf b (nk d) λd=>gf b (pa 0 d) λd=>gf b (l1 d) λd=>gf b (ln 22 d) λd=>gk b (be 3 c d) λb=>br b (rv [I0,Bf]) (nl 2 (bw a) λb=>ba 3 b I1 λb=>np 2 (bw a) λc=>sx 1 c b <| nl 0 (bw a) λb=>nl 2 a λa=>bj 3 a I1 λa=>il 1 b a λa=>rv [a,Bt])
theorem LV:E1 182 ML:=.f1
def a17 (a b c:TV):RA X:=bx 0 c λc=>cT 3 (bw b) (I 200) (nl 3 a λd=>lg 4 c λe=>ia 4 d b λd=>sx 4 d e <| rv []) (nl 7 a λa=>bj 3 b (I 200) λb=>lg 4 c λc=>ia 4 a b λa=>sx 4 a c <| rv [])
theorem a0v:E3 183 a17:=.f3
def F4 (a b:TV):RA X:=bx 0 b λb=>lg 4 b λc=>af 185 [(bw a),c] λc=>jn (np 0 c λd=>pl 3 d λd=>ln 79 d λd=>rv [d,(U 0)]) λd=>bn 75 a Vn λa=>gt a (lg 4 b) λe=>gj a (af 210 [e]) λa=>br a (rv [I0,(U 0)]) (aE 162 (bw c) Vn (rv [I0,(U 3)]) (pl 0 b λa=>aE 5 a (U 3) (np 0 c λa=>pl 2 a λa=>ln 9 a λa=>rv [a,(U 0)]) d))
theorem RI:E2 184 F4:=.f2
def F3 (a b:TV):RA X:=bx 0 b λb=>be 75 (bw a) Vn λc=>gf c (pa 1 b) λd=>gf c (l1 d) λd=>gk c (bl 2 d I1) λc=>gf c (pa 1 b) λd=>gf c (l1 d) λd=>mf c (bw a) λe=>gf c (nk e) λe=>gf c (pa 2 e) λe=>gf c (l1 e) λe=>gf c (ln 151 e) λe=>gk c (bg 2 d e) λc=>mf c (bw a) λd=>gf c (nk d) λd=>gf c (pa 2 d) λd=>gf c (l1 d) λd=>gf c (pa 1 b) λe=>gf c (l1 e) λe=>gf c (bj 2 e I1) λe=>gf c (ia 1 d e) λd=>gf c (l1 d) λd=>gf c (nk d) λd=>gf c (pa 0 d) λd=>gf c (pa 0 d) λd=>gf c (l1 d) λd=>gf c (pa 0 b) λe=>gf c (l1 e) λe=>gk c (bn 5 d e) λc=>br c (rt Vn) (nl 2 a λa=>pl 1 b λb=>bj 2 b I1 λb=>il 1 a b λa=>rt a)
theorem RH:E2 185 F3:=.f2
def MK (a b c d:TV):RA X:=bx 0 d λd=>al cE 0 λe=>be 75 (bw a) Vn λf=>mf f (bw b) λg=>gk f (bl 3 g I0) λf=>mf f (bw c) λg=>gk f (bl 3 g I0) λf=>mf f (bw c) λg=>mf f (bw a) λh=>gf f (nk h) λh=>gf f (pa 0 h) λh=>gf f (l1 h) λh=>mf f (bw a) λi=>gf f (nk i) λi=>gf f (pa 1 i) λi=>gf f (l1 i) λi=>gf f (bj 3 h i) λh=>gk f (bh 3 g h) λf=>br f (bu cE cM [] λf=>sx 4 e f <| ly 4 e λf=>rv [f,Bf]) (lg 4 d λd=>bs 0 1 cE [(0,d)] λd=>af 215 [d,c] λc=>bu z164 cM [(0,(U 7)),(1,b),(3,c)] λb=>ck 129 [a,b] λa b=>sx 4 e a <| ly 4 e λa=>rv [a,b])
theorem RE:E4 186 MK:=.f4
variable {X:CX}
def U0 (a b c:TV):RA X:=al cE 0 λd=>be 75 (bw a) Vn λe=>mf e (bw b) λf=>gk e (bl 3 f I0) λe=>br e (bu cE cM [] λe=>sx 4 d e <| ly 4 d λe=>rv [e,Bf]) (af 2025 [c] λc=>bu z164 cM [(0,(U 6)),(1,b),(3,c)] λb=>ck 129 [a,b] λa b=>sx 4 d a <| ly 4 d λa=>rv [a,b])
theorem RD:E3 187 U0:=.f3
def HU (a b c:TV):RA X:=bx 0 a λa=>bx 0 c λc=>lg 4 c λd=>ck 175 [(bw b),d] λd e=>jn (rv [d,Bt]) λf=>uo .not e λe=>br e (lg 9 a λa=>lg 4 c λc=>ck 216 [a,b,c] λa b=>rv [a,b]) (ln 9 (bw d) λa=>HO 3 a (I 65536) (rv [(S []),Bf]) f)
theorem HE:E3 188 HU:=.f3
def Kq (a b:TV):RA X:=lg 8 b λb=>bu pH Aq [(0,I1)] λc=>cx 217 [b,c] 8 a <| lr 8 a
def Cf (a:LB X) (b c d e:TV):RA X:=cT 3 (bw e) (I 8) (jn (ba 3 e I1 λf=>a [b,c,d,f]) λa=>Em 8 1 b (bw e) λb=>l1 b λb=>bj 3 (I 255) b λb=>Em 8 1 d (bw e) λe=>sx 1 e b <| a) (Kq c d)
def a16 (a:TV):RA X:=bx 1 a λa=>al pH 1 λb=>bu pH Aq [] λc=>al pH 1 λd=>sx 8 d c <| lp [1,2,3,4] (λk=>a4 (Cf k)) [a,b,d,I0]
def Lb:cL X:=aT [(58,[1,2,3,4],λ_ k=>a4 (Cf k))]
theorem a0u:E1 189 a16:=.G1 @Lb λ_=>.s (.s (.q (.lt λk1=>.l) .l))
def Kp (a b:TV):RA X:=lx 8 b 8 a <| lr 8 a
def Ce (a:LB X) (b c d e:TV):RA X:=cT 3 (bw e) (I 8) (jn (λ(f:TV)=>ba 3 e I1 λg=>a [b,c,f,g]) λa=>bo .rem 301 (bw d) (.v (.int .u64 256)) λf=>cv 301 3 f λf=>Em 8 1 c (bw e) λe=>sx 1 e f <| bo .quo 301 d (.v (.int .u64 256)) λd=>a d) (Kp b c)
def a15 (a:TV):RA X:=al pH 1 λb=>bu pH Aq [] λc=>al pH 1 λd=>sx 8 d c <| cv 2 301 a λa=>lp [2,3,4,5] (λk=>a4 (Ce k)) [b,d,a,I0]
def La:cL X:=aT [(122,[2,3,4,5],λ_ k=>a4 (Ce k))]
theorem a0t:E1 190 a15:=.G1 @La λ_=>.s (.s (.s (.q (.lt λk1=>.l) .l)))
def Ko (a:TV):RA X:=cv 301 2 a λa=>rt a
def Cd (a:LB X) (b c d:TV):RA X:=Tf 3 (bw d) I0 (jn (λ(e:TV)=>bj 3 d I1 λf=>a [b,e,f]) λa=>bo .mul 301 c (.v (.int .u64 256)) λe=>Em 8 1 b (bw d) λb=>l1 b λb=>cv 3 301 b λb=>ba 301 e b λb=>a b) (Ko c)
def a14 (a:TV):RA X:=bx 1 a λa=>lp [1,3,4] (λk=>a3 (Cd k)) [a,(.v (.int .u64 0)),(I 7)]
def L9:cL X:=aT [(58,[1,3,4],λ_ k=>a3 (Cd k))]
theorem a0s:E1 191 a14:=.G1 @L9 λ_=>.s (.s (.q (.lt λk1=>.l) .l))
def Df (a b c:TV):RA X:=lx 6 a 6 b <| ly 6 b λa=>rv [c,a]
def De (a:LB X) (b c d e f g h:TV):RA X:=be 3 (bw b) (I 3) λi=>mf i (bw b) λj=>gk i (be 3 j (I 4)) λi=>br i (lx 6 c 6 d <| ly 6 d λi=>rv [e,i]) (a [b,c,d,e,f,g,h])
def ur (a b:LB X) (c d e f g h i j k:TV):RA X:=cT 3 k j (jn (λ(l:TV) (m:TV)=>ba 3 k I1 λn=>b [c,d,e,l,g,h,m,j,n]) λb=>uo .not (bw i) λj=>gt j (lg 6 d) λl=>mt j (bw g) λm=>mt j (bw (bw k)) λn=>gt j (ia 1 m n) λm=>gt j (l1 m) λm=>gj j (af 67 [l,m]) λj=>br j (lc 6 d 66 λj=>al bS 0 λl=>sx 5 l j <| lg 6 d λj=>il 1 (bw g) (bw (bw k)) λm=>ba 3 (bw c) I1 λn=>al z131 0 λo=>af 103 [j,m] λj=>ck 192 [j,n] λj m=>sx 6 o m <| lg 5 l λm=>ia 1 (bw h) (bw k) λk=>l1 k λn=>sv λp q=>af 110 [f,j] λj=>rc [rm 5 l m p q,rn k n p q] <| af 71 [(U 31),m,(S []),n,j] λj=>lx 6 o 6 d <| b j Bt) (b f i)) (De a c d e f g h i)
def qP (a:LB X) (b c d e f g h:TV):RA X:=br h (ln 68 (bw f) λh=>lp [1,2,5,6,7,8,9,34,35] (λk=>a9 (ur a k)) [b,c,d,e,f,g,Bf,h,I0]) (Df c d e)
def MJ (a b:TV):RA X:=bx 0 a λa=>al z131 0 λc=>HO 3 (bw b) (I 6) (lg 6 a λd=>ck 218 [d] λd e=>sx 6 c e <| ly 6 c λe=>rv [d,e]) (lg 6 a λd=>ba 3 (bw b) I1 λe=>ck 192 [d,e] λd e=>sx 6 a e <| ck 219 [(bw b)] λe f=>lp [1,2,5,6,7,8,9] (λk=>a7 (qP k)) [b,a,c,d,e,f,Bt])
def L8:cL X:=aT [(32298,[1,2,5,6,7,8,9,34,35],λx k=>a9 (ur (QG x 0) k)),(252,[1,2,5,6,7,8,9],λ_ k=>a7 (qP k))]
theorem LU:E2 192 MJ:=.G2 @L8 λ_=>.s (.s (.s (.s (.s (.seq (.block (.lt λk1=>(.s (.block (.s (.q (.lt λk2=>.l) .l)))))) .l)))))
def TZ (a b:TV):RA X:=ln 9 (bw a) λc=>be 3 c I0 λc=>mf c (bw a) λd=>gf c (ix 9 d I0) λd=>gf c (bh 5 d (U 48)) λd=>mf c (bw d) λd=>mt d (bw a) λe=>gt d (ix 9 e I0) λe=>gt d (bm 5 e (U 57)) λe=>gk c (pk d e Bf) λc=>br c (rt Bf) (af 64 [(bw a),I0] λc=>ey c λd e=>ex 2 (ct 1 (ct 0 c)) λc=>al bS 0 λf=>sx 5 f d <| be 3 c I0 λc=>mt c (bw e) λd=>mt c (bw a) λa=>gt c (ln 9 a) λa=>gj c (be 3 d a) λa=>gt a (pa 0 f) λc=>gt a (l1 c) λc=>mt a (bw b) λb=>gj a (be 5 c b) λa=>rt a)
theorem RC:E2 193 TZ:=.f2
def TY (a:TV):RA X:=af 111 [(bw a)] λb=>uo .not b λb=>br b (rt Bf) (ln 25 (bw a) λb=>ba 3 (bw b) (I 2) λc=>bu dv sV [(0,(U 1)),(3,c)] λc=>ba 3 (bw b) I1 λd=>bu dv sV [(0,(U 2)),(5,(S [82])),(3,d)] λd=>bu dv sV [(0,(U 3)),(5,(S [102])),(3,b)] λb=>bs 0 3 dv [(0,c),(1,d),(2,b)] λb=>ap false 6 56 0 b a λa=>af 72 [a] λa=>rt a)
theorem RB:E1 194 TY:=.f1
def Dd:RA X:=rt I0
def uq (a:LB X) (b c d e f:TV):RA X:=cT 3 f e (jn (ba 3 f I1 λg=>a [b,c,d,e,g]) λa=>il 1 (bw c) (bw (bw f)) λc=>pl 5 d λd=>aE 9 c d (ba 3 (bw (bw f)) (I 6) λc=>ln 27 (bw b) λd=>bl 3 c d λc=>mt c (bw b) λb=>mt c (bw (bw f)) λd=>gt c (ba 3 d (I 6)) λd=>gt c (ia 2 b d) λb=>gt c (pa 0 b) λb=>gt c (l1 b) λb=>gj c (be 5 b (U 6)) λb=>br b (ba 3 (bw f) (I 6) λb=>rt b) (rt I0)) a) (Dd)
def TX (a b c:TV):RA X:=bx 0 c λc=>pl 0 c λd=>cT 5 d (U 19) (pl 0 c λd=>cv 5 3 d λd=>bj 3 d (I 14) λd=>rt d) (ln 68 (bw b) λd=>lp [0,1,5,16,17] (λk=>a5 (uq k)) [a,b,c,d,I0])
def L7:cL X:=aT [(58,[0,1,5,16,17],λ_ k=>a5 (uq k))]
theorem Rz:E3 195 TX:=.G3 @L7 λ_=>.s (.s (.q (.lt λk1=>.l) .l))
def Dc (a b:TV):RA X:=ly 13 a λa=>sx 13 b a <| lr 13 b
def je (a:LB X) (b c d e f g:TV):RA X:=ba 3 g I1 λg=>a [b,c,d,e,f,g]
def Db (a:LB X) (b c d e f g h:TV):RA X:=cT 3 (bw h) I0 (ly 13 e λi=>cl 77 [i,(I 8),g] λi=>sx 13 f i <| lr 13 f) (ly 13 e λi=>pq 0 6 e λj=>pq 0 5 e λk=>iq 8 4 k (bw b) λk=>ba 3 k (bw h) λk=>il 1 j k λj=>bu gJ kD [(0,j),(1,h)] λh=>cl 116 [i,(bw g),h] λh=>sx 13 e h <| je a b c d e f g)
def uk (a b:LB X) (c d e f g h i j k l:TV):RA X:=cT 3 l k (jn (λ(m:TV)=>ba 3 l I1 λn=>b [c,d,e,f,g,h,i,m,k,n]) λb=>iq 4 0 (bw d) (bw (bw l)) λk=>pl 5 i λi=>aE 9 k i (iq 4 1 (bw d) (bw l) λi=>b i) (b j)) (Db a c d e f g h j)
def um (a:LB X) (b c d e f g:TV):RA X:=pq 0 0 e λh=>iq 6 3 h (bw d) λh=>ba 3 (bw d) h λh=>WD 3 (bw g) h (lc 13 e 74 λh=>br h (ly 13 e λh=>sx 13 f h <| lr 13 f) (pq 0 0 e λh=>ia 6 h (bw g) λh=>lg 6 h λh=>al dv 0 λi=>sx 6 i h <| pl 0 i λh=>aE 5 h (U 26) (ln 218 (bw c) λj=>lp [1,2,3,4,8,9,10,11,44,45] (λk=>a10 (uk a k)) [b,c,d,e,f,g,i,(I (-1)),j,I0]) (aE 5 h (U 27) (lg 13 e λj=>pl 5 i λl=>af 76 [j,l] λj=>bl 3 (bw j) I0 λl=>jn (λ(m:TV)=>ly 13 e λn=>bu gJ kD [(1,m)] λm=>cl 116 [n,(bw g),m] λm=>sx 13 e m <| je a b c d e f g) λm=>br l (pl 5 i λi=>af 119 [i] λi=>uo .neg i λi=>aE 3 (bw i) I0 (ly 13 e λl=>cl 77 [l,(I 8),g] λl=>sx 13 f l <| lr 13 f) (m i)) (m j)) (aE 5 h (U 32) (ly 13 e λh=>ba 3 (bw g) I1 λi=>cl 118 [h,i] λh=>ey h λh i=>al bR 0 λj=>sx 13 j i <| ly 13 j λi=>bu gJ kD [(0,h)] λh=>cl 116 [i,(bw g),h] λh=>sx 13 e h <| je a b c d e f g) (je a b c d e f g))))) (Dc e f)
def TW (a b c d:TV):RA X:=bx 0 a λa=>al bR 0 λe=>lp [1,2,3,4,8,9] (λk=>a6 (um k)) [b,c,d,a,e,(bw d)]
def L6:cL X:=aT [(431018,[1,2,3,4,8,9,10,11,44,45],λx k=>a10 (uk (QG x 0) k)),(26,[1,2,3,4,8,9],λ_ k=>a6 (um k))]
theorem Ry:E4 196 TW:=.G4 @L6 λ_=>.s (.q (.lt λk1=>(.s (.seq (.block (.s (.s (.s (.block (.s (.cond (.s (.q (.lt λk2=>.l) .l)) .l))))))) .l))) .l)
def TU (a:TV):RA X:=bs 0 9 z9 [(0,(S [])),(1,(S [108])),(2,(S [115])),(3,(S [99])),(4,(S [99])),(5,(S [105,105])),(6,(S [105])),(7,(S [])),(8,(S [105]))] λb=>il 1 b (bw a) λb=>bs 0 9 z3 [(0,I0),(1,I1),(2,(I 3)),(3,I1),(4,I1),(5,(I 4)),(6,(I 3)),(7,I1),(8,I1)] λc=>il 1 c a λa=>rv [b,a]
theorem Rx:E1 197 TU:=.f1
def TT (a b c:TV):RA X:=bx 0 a λa=>jn (be 3 (bw b) I1 λd=>mf d (bw b) λe=>gk d (be 3 e (I 2)) λd=>mf d (bw b) λe=>gk d (be 3 e (I 4)) λd=>rt d) λd=>aE 5 c (U 105) (be 3 b I1 λe=>rt e) (aE 5 c (U 99) (be 3 b (I 4) λe=>rt e) (aE 5 c (U 108) (be 3 (bw b) (I 3) λc=>gf c (lg 16 a) λa=>mf c (bw b) λb=>gf c (af 157 [a,b]) λa=>gk c (be 5 a (U 7)) λa=>rt a) d))
theorem Rw:E3 198 TT:=.f3
def TQ (a:TV):RA X:=al pI 0 λb=>bi .real #[316] 329 #[false] [(bw a)] λc=>cv 329 2 c λc=>bi .imag #[316] 329 #[false] [a] λa=>cv 329 2 a λa=>cx 180 [c,a] 2 b <| lr 2 b
theorem Rv:E1 199 TQ:=.f1
def TP (a:TV):RA X:=bx 0 a λa=>pl 0 a λb=>pa 1 a λa=>l1 a λc=>sv λd e=>af 214 [b] λb=>rc [rn a c d e] <| cv 2 329 b λa=>af 214 [c] λc=>rc [VU X 2 329 b a] <| cv 2 329 c λb=>bi .complex #[329,329] 316 #[false,false] [a,b] λa=>rt a
theorem Ru:E1 200 TP:=.f1
def TN (a b:TV):RA X:=af 220 [a,b] λa=>rt a
theorem Rs:E2 201 TN:=.f2
def TM (a b:TV):RA X:=ba 2 a b λa=>rt a
theorem Rr:E2 202 TM:=.f2
def TL (a b:TV):RA X:=bj 2 a b λa=>rt a
theorem Rq:E2 203 TL:=.f2
def TK (a b:TV):RA X:=bo .mul 2 a b λa=>rt a
theorem Rp:E2 204 TK:=.f2
def HT (a b:TV):RA X:=jn (bo .quo 2 a b λc=>rv [c,Bt]) λc=>aE 2 (bw b) I0 (rv [I0,Bf]) (aE 2 (bw b) (I (-1)) (uo .neg a λa=>rv [a,Bt]) c)
theorem HD:E2 205 HT:=.f2
def HS (a b:TV):RA X:=jn (bo .rem 2 a b λa=>rv [a,Bt]) λa=>aE 2 (bw b) I0 (rv [I0,Bf]) (aE 2 (bw b) (I (-1)) (rv [I0,Bt]) a)
theorem HC:E2 206 HS:=.f2
def TJ (a b:TV):RA X:=bx 0 a λa=>bx 0 b λb=>al pI 0 λc=>lg 2 a λa=>lg 2 b λd=>sv λe f=>af 200 [a] λa=>rc [rm 2 b d e f] <| af 200 [d] λb=>ba 316 a b λa=>cx 199 [a] 2 c <| lr 2 c
theorem Rn:E2 207 TJ:=.f2
def TH (a b:TV):RA X:=bx 0 a λa=>bx 0 b λb=>al pI 0 λc=>lg 2 a λa=>lg 2 b λd=>sv λe f=>af 200 [a] λa=>rc [rm 2 b d e f] <| af 200 [d] λb=>bj 316 a b λa=>cx 199 [a] 2 c <| lr 2 c
theorem Rm:E2 208 TH:=.f2
def TD (a b:TV):RA X:=bx 0 a λa=>bx 0 b λb=>al pI 0 λc=>lg 2 a λa=>lg 2 b λd=>sv λe f=>af 200 [a] λa=>rc [rm 2 b d e f] <| af 200 [d] λb=>bo .mul 316 a b λa=>cx 199 [a] 2 c <| lr 2 c
theorem Rl:E2 209 TD:=.f2
def MI (a:TV):RA X:=bx 0 a λa=>pl 0 a λb=>be 5 b (U 3) λb=>gt b (pa 1 a) λa=>gt b (l1 a) λa=>gj b (be 2 a I0) λa=>rt a
theorem Rk:E1 210 MI:=.f1
def Da (a b c:TV):RA X:=bl 2 a I0 λa=>jn (λ(d:TV)=>sl 330 b (some d) none none λd=>cv 77 9 d λd=>rt d) λd=>br a (bj 3 c I1 λa=>Em 20 1 b (bw a) λb=>sx 1 b (U 45) <| d a) (d c)
def qO (a:LB X) (b c d e:TV):RA X:=bj 3 d I1 λd=>bo .rem 2 (bw e) (I 10) λf=>bj 2 (I 48) f λf=>cv 2 5 f λf=>Em 20 1 c (bw d) λg=>sx 1 g f <| bo .quo 2 e (I 10) λe=>aE 2 (bw e) I0 (Da b c d) (a [b,c,d,e])
def TC (a:TV):RA X:=al NP 1 λb=>bg 2 (bw (bw a)) I0 λc=>jn (λ(d:TV)=>lp [0,3,4,5] (λk=>a4 (qO k)) [a,b,(I 20),d]) λb=>br c (uo .neg (bw a) λc=>b c) (b (bw a))
def L5:cL X:=aT [(252,[0,3,4,5],λ_ k=>a4 (qO k))]
theorem Rj:E1 211 TC:=.G1 @L5 λ_=>.s (.s (.s (.s (.s (.seq (.block (.lt λk1=>.l)) .l)))))
def MH (a:TV):RA X:=af 221 [a] λa=>rt a
theorem LS:E1 212 MH:=.f1
def TB (a:TV):RA X:=bx 0 a λa=>pl 0 a λb=>pl 1 a λa=>af 180 [b,a] λa=>al pI 0 λb=>sx 2 b a <| pl 1 b λa=>bl 2 a I0 λa=>jn (λ(c:TV)=>pl 0 b λd=>pa 1 b λb=>l1 b λe=>sv λf g=>af 211 [d] λd=>rc [rn b e f g] <| ba 9 d c λb=>af 211 [e] λc=>ba 9 b c λb=>ba 9 b (S [105]) λb=>rt b) λb=>br a (b (S [])) (b (S [43]))
theorem Ri:E1 213 TB:=.f1
def TA (a:TV):RA X:=ck 222 [a,(I 24)] λa b=>rt a
theorem Rg:E1 214 TA:=.f1
def vg (a:TV):RA X:=rt a
def nN (a:LB X) (b c:TV):RA X:=ln 79 (bw b) λd=>cT 3 (bw c) d (sl 79 (bw b) (some (bw c)) none none λd=>sl 79 (bw b) none (some c) none λe=>cp 4 d e λd=>ba 3 (bw c) d λc=>a [b,c]) (vg b)
def Tz (a b:TV):RA X:=bl 3 (bw b) I0 λc=>jn (ln 79 (bw a) λd=>cv 3 332 d λd=>cv 3 332 b λb=>ck 223 [d,b] λb d=>bg 332 b (.v (.int .u64 0)) λb=>mf b (bw d) λe=>gk b (bg 332 e (.v (.int .u64 9223372036854775807))) λb=>jn (cv 332 3 d λd=>ms 2 4 32 cE d d λd=>cp 4 (bw d) a λa=>lp [7,8] (λk=>a2 (nN k)) [d,a]) λa=>br b (bad) a) λa=>br c (bad) a
def L4:cL X:=aT [(508,[7,8],λ_ k=>a2 (nN k))]
theorem Rf:E2 215 Tz:=.G2 @L4 λ_=>.s (.s (.s (.s (.s (.s (.seq (.block (.lt λk1=>.l)) .l))))))
def Tw (a b c:TV):RA X:=bx 0 a λa=>bx 0 c λc=>lg 9 a λa=>mm λd=>bu WR YI [(0,a),(1,b),(3,d)] λa=>ER 1000341 a λa=>lg 4 c λb=>af 224 [(bw a),b] λb=>nl 13 (bw a) λb=>br b (rv [(S []),Bf]) (np 10 a λa=>af 225 [a] λa=>rv [a,Bt])
theorem Re:E3 216 Tw:=.f3
def Kn (a b:TV):RA X:=lx 8 b 8 a <| lr 8 a
def Cb (a:LB X) (b c d e f g:TV):RA X:=cT 3 (bw g) (I 8) (jn (λ(h:TV)=>ba 3 g I1 λi=>a [b,c,d,e,h,i]) λa=>Em 8 1 b (bw g) λb=>l1 b λb=>Em 8 1 c (bw g) λc=>l1 c λc=>ba 3 b c λb=>ba 3 b f λb=>bo .rem 3 (bw b) (I 256) λc=>Em 8 1 e (bw g) λf=>sx 1 f c <| bo .quo 3 b (I 256) λb=>a b) (Kn d e)
def a13 (a b:TV):RA X:=bx 1 a λa=>bx 1 b λb=>al pH 1 λc=>bu pH Aq [] λd=>al pH 1 λe=>sx 8 e d <| lp [2,3,4,5,6,7] (λk=>a6 (Cb k)) [a,b,c,e,I0,I0]
def L3:cL X:=aT [(122,[2,3,4,5,6,7],λ_ k=>a6 (Cb k))]
theorem a0r:E2 217 a13:=.G2 @L3 λ_=>.s (.s (.s (.q (.lt λk1=>.l) .l)))
def Tv (a:TV):RA X:=bx 0 a λa=>al z131 0 λb=>lc 6 a 66 λc=>al bS 0 λd=>sx 5 d c <| lg 6 a λc=>af 67 [c,(S [45])] λc=>uo .not c λc=>gt c (lg 6 a) λe=>gt c (af 67 [e,(S [33])]) λe=>gj c (uo .not e) λc=>br c (lg 6 a λc=>ck 226 [c] λc e=>sx 6 b e <| ly 6 b λe=>rv [c,e]) (lg 6 a λa=>pl 4 d λc=>af 105 [a,c] λa=>ck 218 [a] λa c=>al z131 0 λe=>sx 6 e c <| pl 2 e λc=>bj 3 c I1 λc=>px 2 e 1 c <| pl 4 d λc=>aE 9 c (S [45]) (lg 5 d λc=>lg 6 e λf=>sv λg h=>af 71 [(U 30),c,(S []),(I 12),a] λc=>rc [rm 6 e f g h] <| sx 6 b f <| ly 6 b λf=>rv [c,f]) (lg 5 d λc=>lg 6 e λd=>sv λg h=>af 71 [(U 30),c,(S []),(I 13),a] λa=>rc [rm 6 e d g h] <| sx 6 b d <| ly 6 b λb=>rv [a,b]))
theorem Rd:E1 218 Tv:=.f1
def Tu (a:TV):RA X:=jn (bs 0 3 z9 [(0,(S [42])),(1,(S [47])),(2,(S [37]))] λb=>bs 0 3 z2 [(0,(I 3)),(1,(I 4)),(2,(I 5))] λc=>rv [b,c]) λb=>aE 3 a I1 (bs 0 1 z9 [(0,(S [124,124]))] λc=>bs 0 1 z2 [(0,(I 15))] λd=>rv [c,d]) (aE 3 a (I 2) (bs 0 1 z9 [(0,(S [38,38]))] λc=>bs 0 1 z2 [(0,(I 14))] λd=>rv [c,d]) (aE 3 a (I 3) (bs 0 2 z9 [(0,(S [61,61])),(1,(S [33,61]))] λc=>bs 0 2 z2 [(0,(I 6)),(1,(I 7))] λd=>rv [c,d]) (aE 3 a (I 4) (bs 0 4 z9 [(0,(S [60])),(1,(S [60,61])),(2,(S [62])),(3,(S [62,61]))] λc=>bs 0 4 z2 [(0,(I 8)),(1,(I 9)),(2,(I 10)),(3,(I 11))] λd=>rv [c,d]) (aE 3 a (I 5) (bs 0 2 z9 [(0,(S [43])),(1,(S [45]))] λa=>bs 0 2 z2 [(0,I1),(1,(I 2))] λc=>rv [a,c]) b))))
theorem Rb:E1 219 Tu:=.f1
def HQ (a b:TV):RA X:=af 227 [(bw a)] λc=>af 227 [(bw b)] λd=>br c (br d (rt I0) (rt (I (-1)))) (br d (rt I1) (cT 2 (bw a) (bw b) (rt (I (-1))) (HO 2 a b (rt I1) (rt I0))))
theorem HB:E2 220 HQ:=.f2
def MF (a:TV):RA X:=br a (rt (S [116,114,117,101])) (rt (S [102,97,108,115,101]))
theorem LR:E1 221 MF:=.f1
def Tt (a b:TV):RA X:=bl 3 (bw b) I1 λc=>mf c (bw b) λd=>gk c (bg 3 d (I 64)) λc=>br c (rv [I0,Bf]) (bj 3 (I 64) b λb=>cv 3 332 b λb=>bo .shl 2 a (bw b) λa=>bo .shr 2 a b λa=>rv [a,Bt])
theorem Ra:E2 222 Tt:=.f2
def Ts (a b:TV):RA X:=br Bf (cv 332 344 a λc=>cv 332 344 b λd=>ck 228 [c,d] λc d=>cv 344 332 c λc=>cv 344 332 d λd=>rv [c,d]) (ck 229 [a,b] λa b=>rv [a,b])
theorem R9:E2 223 Ts:=.f2
def oZ (a b:TV):RA X:=bx 0 b λb=>pl 0 b λc=>aE 5 c (U 1) (pl 1 b λd=>af 211 [d] λd=>af 230 [a,d] λd=>rv []) (aE 5 c (U 2) (pl 1 b λd=>bn 2 d I0 λd=>af 212 [d] λd=>af 230 [a,d] λd=>rv []) (aE 5 c (U 4) (pl 2 b λd=>pl 3 b λe=>bu pI mE [(0,d),(1,e)] λd=>af 213 [d] λd=>af 230 [a,d] λd=>rv []) (aE 5 c (U 5) (af 230 [a,(S [110,105,108])] λd=>rv []) (aE 5 c (U 3) (nl 9 (bw a) λd=>lg 4 b λe=>ck 175 [d,e] λd e=>uo .not e λe=>br e (af 230 [a,(S [63])] λe=>rv []) (af 231 [(bw d)] λe=>HO 3 e (I 65536) (np 13 a λe=>sx 1 e Bt <| rv []) (af 232 [d] λd=>af 230 [a,d] λd=>rv []))) (be 5 c (U 7) λd=>jn (λ(e:TV)=>br e (lg 4 b λb=>af 233 [a,b] λb=>rv []) (af 230 [a,(S [63])] λa=>rv [])) λa=>br d (a d) (be 5 c (U 6) λb=>a b))))))
theorem oR:E2 224 oZ:=.f2
def D9 (a b c:TV):RA X:=lx 6 a 6 b <| ly 6 b λa=>rv [c,a]
def nM (a:LB X) (b c d:TV):RA X:=lg 6 b λe=>af 67 [e,(S [91])] λe=>gf e (lg 6 b) λf=>gk e (af 67 [f,(S [46])]) λe=>br e (lc 6 b 66 λe=>al bS 0 λf=>sx 5 f e <| pl 4 f λe=>aE 9 e (S [91]) (lg 6 b λe=>af 105 [e,(S [91])] λe=>ck 192 [e,I1] λe g=>al z131 0 λh=>sx 6 h g <| lg 6 h λg=>cx 107 [g,(S [93])] 6 b <| lg 5 f λg=>sv λh i=>af 110 [d,e] λe=>rc [rm 5 f g h i] <| af 71 [(U 28),g,(S []),I0,e] λe=>a [b,c,e]) (lg 6 b λe=>af 103 [e,(S [46])] λe=>ck 104 [e,(U 1)] λe g=>al bS 0 λh=>al z131 0 λi=>sx 5 h e <| sx 6 i g <| lx 6 i 6 b <| lg 5 f λe=>pl 4 h λf=>af 71 [(U 29),e,f,I0,d] λe=>a [b,c,e])) (D9 b c d)
def Tr (a:TV):RA X:=bx 0 a λa=>al z131 0 λb=>lg 6 a λc=>ck 234 [c] λc d=>sx 6 a d <| lp [1,3,4] (λk=>a3 (nM k)) [a,b,c]
def L2:cL X:=aT [(28,[1,3,4],λ_ k=>a3 (nM k))]
theorem R8:E1 226 Tr:=.G1 @L2 λ_=>.s (.s (.seq (.block (.lt λk1=>.l)) .l))
def Tq (a:TV):RA X:=bn 2 (bw a) a λa=>rt a
theorem R7:E1 227 Tq:=.f1
def a0Z (a b:TV):RA X:=cv 344 301 a λa=>cv 344 301 b λb=>bo .mul 301 a b λa=>bo .shr 301 (bw a) (.v (.int .u64 32)) λb=>cv 301 344 b λb=>cv 301 344 a λa=>rv [b,a]
theorem a0q:E2 228 a0Z:=.f2
def Tp (a b:TV):RA X:=bo .and 301 (bw a) (.v (.int .u64 4294967295)) λc=>bo .shr 301 (bw a) (.v (.int .u64 32)) λd=>bo .and 301 (bw b) (.v (.int .u64 4294967295)) λe=>bo .shr 301 (bw b) (.v (.int .u64 32)) λf=>bo .mul 301 (bw c) (bw e) λg=>bo .mul 301 (bw d) e λe=>bo .shr 301 g (.v (.int .u64 32)) λg=>ba 301 e g λe=>bo .and 301 (bw e) (.v (.int .u64 4294967295)) λg=>bo .shr 301 e (.v (.int .u64 32)) λe=>bo .mul 301 c (bw f) λc=>ba 301 g c λc=>bo .mul 301 d f λd=>ba 301 d e λd=>bo .shr 301 c (.v (.int .u64 32)) λc=>ba 301 d c λc=>bo .mul 301 a b λa=>rv [c,a]
theorem R6:E2 229 Tp:=.f2
def MC (a b:TV):RA X:=nl 13 (bw a) λc=>mf c (bw b) λd=>gf c (ln 9 d) λd=>mf c (bw a) λe=>gf c (nk e) λe=>gf c (pa 10 e) λe=>gf c (af 235 [e]) λe=>gf c (bj 3 (I 65536) e) λe=>gk c (bg 3 d e) λc=>br c (np 13 a λc=>sx 1 c Bt <| rv []) (np 10 a λa=>af 236 [a,b] λa=>rv [])
theorem R5:E2 230 MC:=.f2
def D8 (a:TV):RA X:=rt a
def uj (a:LB X) (b c d e:TV):RA X:=cT 3 e d (jn (λ(f:TV)=>ba 3 e I1 λg=>a [b,f,d,g]) λa=>ix 9 (bw b) (bw e) λb=>af 237 [b] λb=>ln 9 b λb=>ba 3 c b λb=>a b) (D8 c)
def To (a:TV):RA X:=ln 9 (bw a) λb=>lp [0,3,6,7] (λk=>a4 (uj k)) [a,(I 2),b,I0]
def L1:cL X:=aT [(58,[0,3,6,7],λ_ k=>a4 (uj k))]
theorem R4:E1 231 To:=.G1 @L1 λ_=>.s (.s (.q (.lt λk1=>.l) .l))
def D7 (a:TV):RA X:=af 238 [a,(U 34)] λb=>af 225 [a] λa=>rt a
def ui (a:LB X) (b c d e:TV):RA X:=cT 3 e d (jn (ba 3 e I1 λf=>a [b,c,d,f]) λa=>ix 9 (bw b) (bw e) λb=>af 237 [b] λb=>af 236 [c,b] λb=>a) (D7 c)
def Tn (a:TV):RA X:=als FF 1000339 λb=>af 238 [b,(U 34)] λc=>ln 9 (bw a) λc=>lp [0,3,7,8] (λk=>a4 (ui k)) [a,b,c,I0]
def L0:cL X:=aT [(122,[0,3,7,8],λ_ k=>a4 (ui k))]
theorem R3:E1 232 Tn:=.G1 @L0 λ_=>.s (.s (.s (.q (.lt λk1=>.l) .l)))
def vf (a b:TV):RA X:=pl 0 b λb=>aE 5 b (U 6) (af 230 [a,(S [125])] λb=>rv []) (af 230 [a,(S [93])] λa=>rv [])
def nL (a:LB X) (b c d e f:TV):RA X:=cT 3 f e (jn (ba 3 f I1 λg=>a [b,c,d,e,g]) λa=>bg 3 (bw (bw f)) I0 λe=>jn (pl 0 c λg=>be 5 g (U 6) λg=>jn (nl 9 (bw b) λh=>lg 4 c λi=>al cE 0 λj=>ck 140 [h,i,(bw f)] λh i=>sx 4 j h <| nl 13 (bw b) λh=>br h (rv []) (lg 4 j λh=>af 224 [(bw b),h] λh=>a)) λa=>br g (iq 2 0 (bw d) (bw (bw f)) λd=>ba 9 d (S [58,32]) λd=>af 230 [(bw b),d] λd=>a) a) λa=>br e (af 230 [(bw b),(S [44,32])] λd=>a) a) (vf b c)
def rX (a b:TV):RA X:=bx 0 b λb=>nl 9 (bw a) λc=>lg 4 b λd=>ck 184 [c,d] λc d=>bn 5 d (U 0) λd=>mf d (bw a) λe=>gf d (nk e) λe=>gf d (pa 13 e) λe=>gf d (l1 e) λe=>pb d Bt e (af 230 [a,(S [63])] λd=>rv []) (pl 0 b λd=>be 5 d (U 6) λd=>jn (λ(e:TV)=>nl 12 (bw a) λf=>pl 1 b λg=>lk 336 true f g λf=>ey f λf g=>br g (af 240 [f] λf=>ba 9 (S [35]) f λf=>af 230 [a,f] λf=>rv []) (nl 12 (bw a) λf=>pl 1 b λg=>nl 12 (bw a) λh=>ln 336 h λh=>ba 3 h I1 λh=>mu 336 f g h λ_=>pl 0 b λf=>be 5 f (U 6) λf=>jn (lp [0,3,6,140,141] (λk=>a5 (nL k)) [a,b,e,c,I0]) λe=>br f (np 0 (bw a) λf=>pa 3 f λf=>l1 f λg=>nl 9 (bw a) λh=>lg 4 b λi=>sv λj l=>af 239 [h,i] λh=>rc [rn f g j l] <| iq 3 0 g h λf=>ba 9 f (S [123]) λf=>af 230 [(bw a),f] λf=>e) (af 230 [(bw a),(S [91])] λf=>e))) λe=>br d (nl 9 (bw a) λd=>lg 4 b λb=>af 239 [d,b] λb=>bl 3 (bw b) I0 λd=>mf d (bw b) λf=>mf d (bw a) λg=>gf d (nk g) λg=>gf d (pa 0 g) λg=>gf d (pa 3 g) λg=>gf d (l1 g) λg=>gf d (ln 28 g) λg=>gk d (bh 3 f g) λd=>mf d (bw a) λf=>gf d (nk f) λf=>gf d (pa 0 f) λf=>gf d (pa 3 f) λf=>gf d (l1 f) λf=>mf d (bw b) λg=>gf d (ia 3 f g) λf=>gf d (pa 2 f) λf=>gf d (l1 f) λf=>mf d (bw c) λc=>gk d (bn 3 f c) λc=>br c (af 230 [a,(S [63])] λc=>rv []) (np 0 (bw a) λc=>pl 3 c λc=>ia 3 c b λb=>lg 3 b λb=>al Bz 0 λc=>sx 3 c b <| np 0 (bw a) λa=>pl 4 a λa=>pl 1 c λb=>pl 1 c λd=>pl 2 c λc=>ba 3 d c λc=>sl 29 a (some b) (some c) none λa=>e a)) (e N0))
def KZ:cL X:=aT [(4090,[0,3,6,140,141],λ_ k=>a5 (nL k))]
theorem Ez:E2 233 rX:=.G2 @KZ λ_=>.s (.s (.s (.s (.s (.s (.s (.s (.q (.lt λk1=>.l) .l))))))))
def Tl (a:TV):RA X:=bx 0 a λa=>al z131 0 λb=>lc 6 a 66 λc=>al bS 0 λd=>sx 5 d c <| bs 0 0 dv [] λc=>lc 6 a 65 λe=>br e (bu dv sV [(0,(U 25))] λe=>bs 0 1 dv [(0,e)] λe=>lx 6 a 6 b <| ly 6 b λf=>rv [e,f]) (lg 6 a λe=>al z131 0 λf=>sx 6 f e <| pl 1 a λe=>ba 3 e I1 λe=>pl 0 a λg=>ln 127 g λg=>bj 3 g I1 λg=>bi .min #[3,3] 3 #[false,false] [e,g] λe=>px 1 f 1 e <| jn (bu dv sV [(0,(U 25))] λe=>bs 0 1 dv [(0,e)] λe=>lg 6 a λg=>cx 70 [g,(I 5)] 6 b <| ly 6 b λg=>rv [e,g]) λe=>pl 0 d λg=>aE 5 g (U 3) (lg 5 d λg=>pl 3 d λh=>lg 6 f λi=>sv λj k=>af 71 [(U 21),g,(S []),h,c] λg=>rc [rm 6 f i j k] <| sx 6 b i <| ly 6 b λh=>rv [g,h]) (pl 0 d λg=>aE 5 g (U 4) (lg 5 d λg=>pl 3 d λh=>lg 6 f λi=>sv λj k=>af 71 [(U 22),g,(S []),h,c] λg=>rc [rm 6 f i j k] <| sx 6 b i <| ly 6 b λh=>rv [g,h]) (pl 0 d λg=>aE 5 g (U 5) (lg 5 d λg=>pl 4 d λh=>lg 6 f λi=>sv λj k=>af 71 [(U 23),g,h,I0,c] λg=>rc [rm 6 f i j k] <| sx 6 b i <| ly 6 b λh=>rv [g,h]) (lg 6 a λg=>af 67 [g,(S [116,114,117,101])] λg=>br g (lg 5 d λg=>lg 6 f λh=>sv λj k=>af 71 [(U 24),g,(S []),I1,c] λg=>rc [rm 6 f h j k] <| sx 6 b h <| ly 6 b λh=>rv [g,h]) (lg 6 a λg=>af 67 [g,(S [102,97,108,115,101])] λg=>br g (lg 5 d λg=>lg 6 f λh=>sv λj k=>af 71 [(U 24),g,(S []),I0,c] λg=>rc [rm 6 f h j k] <| sx 6 b h <| ly 6 b λh=>rv [g,h]) (lg 6 a λg=>af 67 [g,(S [110,105,108])] λg=>br g (lg 5 d λg=>lg 6 f λh=>sv λj k=>af 71 [(U 25),g,(S []),I0,c] λg=>rc [rm 6 f h j k] <| sx 6 b h <| ly 6 b λh=>rv [g,h]) (pl 0 d λg=>be 5 g (U 1) λg=>gt g (lg 6 f) λh=>gt g (af 67 [h,(S [40])]) λh=>gj g (uo .not h) λg=>br g (lg 5 d λg=>pl 4 d λh=>lg 6 f λi=>sv λj k=>af 71 [(U 26),g,h,I0,c] λg=>rc [rm 6 f i j k] <| sx 6 b i <| ly 6 b λh=>rv [g,h]) (pl 0 d λg=>aE 5 g (U 1) (lg 6 f λg=>ck 241 [g] λg h=>al z131 0 λi=>sx 6 i h <| lg 5 d λh=>pl 4 d λl=>lg 6 i λm=>sv λj k=>af 71 [(U 27),h,l,I0,g] λg=>rc [rm 6 i m j k] <| sx 6 b m <| ly 6 b λh=>rv [g,h]) (lg 6 a λg=>af 67 [g,(S [40])] λg=>br g (lg 6 a λg=>af 105 [g,(S [40])] λg=>ck 192 [g,I1] λg h=>al z131 0 λi=>sx 6 i h <| lg 6 i λh=>cx 107 [h,(S [41])] 6 b <| ly 6 b λh=>rv [g,h]) (lg 6 a λg=>af 67 [g,(S [109,97,107,101])] λg=>gt g (lg 6 f) λh=>gj g (af 67 [h,(S [91])]) λg=>br g (lg 6 f λg=>ck 108 [g] λg h=>al z131 0 λi=>sx 6 i h <| lg 6 i λh=>af 105 [h,(S [40])] λh=>ck 192 [h,I1] λh l=>sx 6 i l <| lg 5 d λl=>lg 6 i λm=>sv λj k=>af 110 [g,h] λg=>rc [rm 5 d l j k,rm 6 i m j k] <| sv λj k=>af 71 [(U 32),l,(S []),I0,g] λg=>rc [rm 6 i m j k] <| cx 107 [m,(S [41])] 6 b <| ly 6 b λh=>rv [g,h]) (lg 6 a λa=>af 67 [a,(S [109,97,107,101])] λa=>br a (lg 6 f λa=>ck 104 [a,(U 2)] λa f=>al bS 0 λg=>al z131 0 λh=>sx 5 g a <| sx 6 h f <| lg 5 d λa=>lg 5 g λf=>pl 4 g λg=>lg 6 h λi=>sv λj k=>af 71 [(U 19),f,g,I0,c] λc=>rc [rm 5 d a j k,rm 6 h i j k] <| sv λj k=>af 71 [(U 32),a,(S []),I0,c] λa=>rc [rm 6 h i j k] <| af 105 [i,(S [40])] λc=>cx 107 [c,(S [41])] 6 b <| ly 6 b λb=>rv [a,b]) e)))))))))))
theorem R1:E1 234 Tl:=.f1
def Tk (a:TV):RA X:=nl 1 a λa=>ln 77 a λa=>rt a
theorem R0:E1 235 Tk:=.f1
def tK (a:TV):RA X:=jn (bs 0 1 z5 [(0,a)] λb=>cv 77 9 b λb=>rt b) λb=>be 5 (bw a) (U 34) λc=>mf c (bw a) λd=>gk c (be 5 d (U 92)) λc=>br c (bs 0 2 z5 [(0,(U 92)),(1,a)] λc=>cv 77 9 c λc=>rt c) (aE 5 (bw a) (U 10) (rt (S [92,110])) (aE 5 (bw a) (U 9) (rt (S [92,116])) (bl 5 (bw a) (U 32) λc=>mf c (bw a) λd=>gk c (bg 5 d (U 126)) λc=>br c (bo .shr 5 (bw a) (.v (.int .u64 4)) λc=>bo .shr 5 (bw a) (.v (.int .u64 4)) λd=>ba 5 d (U 1) λd=>sl 9 (S [48,49,50,51,52,53,54,55,56,57,97,98,99,100,101,102]) (some c) (some d) none λc=>ba 9 (S [92,120]) c λc=>bo .and 5 (bw a) (U 15) λd=>bo .and 5 a (U 15) λa=>ba 5 a (U 1) λa=>sl 9 (S [48,49,50,51,52,53,54,55,56,57,97,98,99,100,101,102]) (some d) (some a) none λa=>ba 9 c a λa=>rt a) b)))
theorem vW:E1 237 tK:=.f1
def MA (a b:TV):RA X:=bx 0 b λb=>lg 4 b λb=>af 185 [a,b] λa=>aE 162 (bw a) Vn (rt I0) (np 0 a λa=>pl 1 a λa=>rt a)
theorem QZ:E2 239 MA:=.f2
def ve (a b c:TV):RA X:=lg 6 a λa=>cx 107 [a,(S [41])] 6 b <| ly 6 b λa=>rv [c,a]
def uh (a:LB X) (b c d e:TV):RA X:=lc 6 b 65 λf=>uo .not f λf=>gt f (lg 6 b) λg=>gt f (af 67 [g,(S [41])]) λg=>gj f (uo .not g) λf=>br f (bg 3 (bw e) I0 λf=>jn (lg 6 b λg=>ck 192 [g,I1] λg h=>al z131 0 λi=>sx 6 i h <| lx 6 i 6 b <| ap false 6 56 0 d g λg=>ba 3 e I1 λe=>a [b,c,g,e]) λa=>br f (lg 6 b λe=>cx 103 [e,(S [44])] 6 b <| a) a) (ve b c d)
def Tj (a:TV):RA X:=bx 0 a λa=>al z131 0 λb=>lg 6 a λc=>cx 105 [c,(S [40])] 6 a <| bs 0 0 dv [] λc=>lp [1,3,4,5] (λk=>a4 (uh k)) [a,b,c,I0]
def KY:cL X:=aT [(124,[1,3,4,5],λ_ k=>a4 (uh k))]
theorem QY:E1 241 Tj:=.G1 @KY λ_=>.s (.s (.s (.s (.seq (.block (.lt λk1=>.l)) .l))))
end T.Q
namespace T
open Go V Q
variable {a b c d e f g:Nat} {u v w:Value} {i j k:Int} {t:TypeId} {p:List Value} {q:Bool} {n:IntKind} {x y z:TV} {r s:List TO} {o:List TV}
abbrev Tx:={b:aU//b.size<=100000}
abbrev dm:Tx:=⟨⟨#[]⟩,by decide⟩
structure Tok where
 kind:Int
 line:Int
 nH:Int
 num:Int
 text:Tx
 fH:-9223372036854775808<=num:=by omega
@[simp] theorem Tok.lo (t:Tok):-9223372036854775808<=t.num:=t.fH
@[simp] def df (t:Tok):ao:=[.v (.int .u8 t.kind),.v (.int .i64 t.line),.v (.int .i64 t.nH),.v (.int .i64 t.num),.v (.string t.text.1)]
abbrev pv (L:List Tok) (i:Nat) (d c l k:Int):TV:=.ag [.sl false (L.map df),I i,I d,I c,I l,I k]
section
variable {J:ae} {fl:Nat} {L:List Tok} {i:Nat} {D c l k:Int} {E:Tok}
theorem n65:EP prog 65 [pv L i D c l k] λr=>r= .v (.bool (!decide (c=0))):=by refine EP.o e65 λJ Q a=>?_;simp [b65];exact a _ rfl
theorem n66 (b:L[i]? =some E):EP prog 66 [pv L i D c l k] λr=>r= .ag (df E):=by refine EP.o e66 λJ Q a=>?_;simp [b66,b];exact a _ rfl
@[simp] theorem c65 {a:dL}:CL prog 65 [pv L i D c l k] fl a r J=a (.v (.bool (!decide (c=0)))) r J:=CP.q n65
theorem c66 (b:L[i]? =some E) {a:dL}:CL prog 66 [pv L i D c l k] fl a r J=a (.ag (df E)) r J:=CP.q (n66 b)
theorem n70 (b:L[i]? =some E) (e:Int):EP prog 70 [pv L i D c l k,I e] λr=>r=(if c=0 then pv L i D e E.line E.nH else pv L i D c l k):=by refine EP.o e70 λJ Q a=>?_;simp [b70];apply ST.dc<;>intro h;simp [c66 b,h];exact a _ (by simp [h]);simp;exact a _ (by simp [h])
def cls (b:Int):Int:=if (97<=b/\b<=122)\/b=95 then 1 else if 65<=b/\b<=90 then 2 else if 48<=b/\b<=57 then 3 else 0
theorem n98 (b:Int):EP prog 98 [U b] λr=>r=I (cls b):=by refine EP.o e98 λJ Q a=>?_;unfold cls at a;by_cases c:97<=b <;> by_cases d:b<=122 <;> by_cases e:b=95 <;> by_cases f:65<=b <;> by_cases g:b<=90 <;> by_cases h:48<=b <;> by_cases i:b<=57 <;> first|omega|simp [b98,c,d,e,f,g,h,i,a]
def jy (b:aU) (i:Nat):Int:=((b.data.toList.getD i 0).toNat:Nat)
theorem dD {k:IntKind} {i:Nat} {b:aU} (h:i<b.size):mn prog 9 (.v (.string b)) (.v (.int k (i:Int)))=some (U (jy b i)):=sF ⟨O,O⟩
theorem T8 {a:dL} (b:Int):CL prog 98 [U b] fl a r J=a (I (cls b)) r J:=CP.q (n98 b)
theorem n99 (b:aU) (p:b.size<1000000000000) (i:Nat) (s:i<=b.size):EP prog 99 [.v (.string b),I i] λr=>(∃j:Nat,r=I j/\i<=j/\j<=b.size/\(∀a,i<=a->a<j->0<cls (jy b a))/\(j<b.size->¬0<cls (jy b j))):=by refine EP.o e99 λJ Q g=>?_;simp [b99];refine LP.ind (λj:Nat=>b.size-j) (λj=>i<=j/\j<=b.size/\(∀a,i<=a->a<j->0<cls (jy b a))) (λj=>[.v (.string b),I j]) (λ_=>[]) (λ_=>J) 0 (λ_ _=>⟨rfl,rfl,rfl⟩) (λj l k m=>?_) i ⟨O,O,λ_ _ _=>O⟩;have ⟨e,f,c⟩:=l;simp [BH];apply ST.dc<;>intro h;simp [dD h,T8,h];apply ST.dc<;>intro d;simp;refine m (j+1) _ _ _ ?_ rfl rfl ⟨O,O,λa n o=>?_⟩ O;simp [bW (x:=(j:Int)+1) O O];rcases Nat.lt_succ_iff_lt_or_eq.1 o with q|rfl;exact c a n q;exact d;simp [D1];exact g _ ⟨j,rfl,e,f,c,λ_=>O⟩;simp [D1,h];exact g _ ⟨j,rfl,e,f,c,λq=>absurd q h⟩
end
section
variable {J:ae} {fl:Nat} {D:dL} {E:ae}
theorem Fw {c:Type} {a:List c} {Q:c->Prop} (h:∀e∈a,Q e) {j:Nat} (b:j<a.length):∃e,a[j]? =some e/\Q e:=⟨a[j],zA b,h _ (zW b)⟩
theorem wn {j:Nat} (h:j<1000000000000000):i64.wrap ((j:Int)+1)=(j:Int)+1:=bW O O
theorem n62 (b:aU) (t:b.size<1000000000000) (i:Nat) (p:i<=b.size):EP prog 62 [.v (.string b),I i] λr=>(∃j:Nat,r=I j/\i<=j/\j<=b.size):=by
 refine EP.o e62 λJ Q d=>?_;simp [b62];refine LP.ind (λj:Nat×Bool=>b.size-j.1) (λj=>i<=j.1/\j.1<=b.size) (λj=>[.v (.string b),I j.1,B j.2]) (λ_=>[]) (λ_=>J) 0 (λ_ _=>⟨rfl,rfl,rfl⟩) (λj q k s=>?_) (i,false) ⟨Z,by simpa using p⟩;have ⟨j,n⟩:=j;have ⟨a,c⟩:=q;simp only at a c;simp [BW];apply ST.dc<;>intro h;have e:=λn=>s (j+1,n) _ [] _ rfl rfl rfl ⟨W,h⟩ W;have w:=wn (j:=j) O;simp at e;simp [dD h];generalize jy b j=x;by_cases f:x=35 <;> by_cases g:x=10 <;> by_cases l:x=32 <;> by_cases m:x=9 <;> by_cases o:x=13 <;> cases n <;> first|omega|(simp [f,g,l,m,o,w,e];done)|(simp [f,g,l,m,o];exact d _ ⟨j,rfl,a,c⟩)
 simp [J1];exact d _ ⟨j,rfl,a,c⟩
theorem n63 (b:aU) (f:b.size<1000000000000) (i:Nat) (g:i<=b.size):EP prog 63 [.v (.string b),I i] λr=>(∃x y:Int,r= .tu [I x,I y]):=by refine EP.o e63 λJ Q c=>?_;simp [b63];refine LP.ind (λj:Nat×Int×Int=>i-j.1) (λj=>j.1<=i) (λj=>[.v (.string b),I i,I j.2.1,I j.2.2,I j.1]) (λ_=>[]) (λ_=>J) 0 (λ_ _=>⟨rfl,rfl,rfl⟩) (λj d k e=>?_) (0,1,1) Z;have ⟨j,x,y⟩:=j;simp only at d;simp [BV];apply ST.dc<;>intro h;have a:=λx y=>e (j+1,x,y) _ [] _ rfl rfl rfl h W;have w:=wn (j:=j) O;simp at a;simp [dD (b:=b) (i:=j) O];refine ST.dc (λh=>?_) λh=>?_ <;> simp [w,a];simp [J0];exact c _ ⟨x,y,rfl⟩
theorem n100 (b:aU):EP prog 100 [.v (.string b)] λr=>(∃x:Bool,r=B x):=by
 refine EP.o T4 λJ Q f=>?_;simp [UQ];generalize d: [[S [114,101,99]],_,_,_,_,_,_,_,_,_,_,_,_,_,_,_]=a;have o:a.length=16:=by rw [<-d];rfl
 have m:∀e∈a,∃b,e=[.v (.string b)]:=by rw [<-d];simp
 clear d;refine LP.ind (λj:Nat=>16-j) (λj=>True) (λj=>[.v (.string b),.sl true a,I 16,I j]) (λ_=>[]) (λ_=>J) 0 (λ_ _=>⟨rfl,rfl,rfl⟩) (λj n k l=>?_) 0 trivial;simp [uN];apply ST.dc<;>intro h;obtain ⟨_,i,c,rfl⟩:=Fw m (j:=j) O;have g:=l (j+1) _ [] _ rfl rfl rfl trivial O;simp at g;simp [i];apply ST.dc<;>intro h;simp;exact f _ ⟨true,rfl⟩;simp [g,wn (j:=j) O];simp [DA];exact f _ ⟨false,rfl⟩
end
section
variable {s:ae} {fl:Nat} {k':dL} {E:ae}
theorem rY {P:aB} {s:ae} {b c:aU} {d a:fQ} (h:pG P t (.string b) d a none []=some (.string c)) (e:∀x,d=some x->∃k n,x= .int k n) (f:∀x,a=some x->∃k n,x= .int k n):aK P t (d.map .v) (a.map .v) none r s (.v (.string b))=some (.v (.string c)):=by unfold aK;rcases d with _|x <;> rcases a with _|y <;> simp [iF,h] <;> rfl
theorem A2 {k k':IntKind} {lo hi:Int} {b:aU} {l s:ae} (a:0<=lo) (c:lo<=hi) (d:hi<=b.size):aK prog 9 (some (.v (.int k lo))) (some (.v (.int k' hi))) none l s (.v (.string b))=some (.v (.string (b.extract lo.toNat hi.toNat))):=rY (N2 a c d Y) Z Z
theorem Il {k:IntKind} {lo:Int} {b:aU} {l s:ae} (a:0<=lo) (c:lo<=b.size):aK prog 9 (some (.v (.int k lo))) none none l s (.v (.string b))=some (.v (.string (b.extract lo.toNat b.size))):=rY (N3 a c Y) Z Z
@[simp] theorem Yh {P:aB} (a b:aU):cm P .gtr t (.v (.string a)) (.v (.string b))=some (.v (.bool (!(strLt a b||a.toList==b.toList)))):=cy rfl rfl Mq
def dig (b:aU):Prop:=∀j,j<b.size->48<=jy b j/\jy b j<=57
theorem BA (x:Int):-9223372036854775808<=i64.wrap x:=by simp only [IntKind.wrap,IntKind.signed,IntKind.bits];simp;split <;> omega
theorem n145 (b:aU) (y:b.size<1000000000000) (d:0<b.size) (g:dig b):EP prog 145 [.v (.string b)] λr=>(∃x e:Int,r= .tu [I x,I e]/\-9223372036854775808<=x):=by
 refine EP.o Sm λs Q c=>?_;have q:∀k,mn prog 9 (.v (.string b)) (.v (.int k 0))=some (U (jy b 0)):=λk=>dD d;have w:=g 0 d;have o:¬jy b 0=45:=O;have p:¬b.size=0:=O;simp [Uo,d,q,o,p];have l:LP prog s.length (RP Q s) [0,4,5] (λk=>a3 (qR k)) [.v (.string b),.v (.string b),I 0] [] s:=by
  refine LP.ind (λj:Nat=>b.size-j) (λj=>j<=b.size) (λj=>[.v (.string b),.v (.string b),I j]) (λ_=>[]) (λ_=>s) 0 (λ_ _=>⟨rfl,rfl,rfl⟩) (λj i k f=>?_) 0 O;simp [qR];apply ST.dc<;>intro h;have a:=f (j+1) _ [] _ rfl rfl rfl O O;have ⟨t,v⟩:=g j h;simp at a;simp [dD h,show ¬jy b j<48 by omega,show ¬57<jy b j by omega,a,wn (j:=j) O];simp [Dr];have m:LP prog s.length (RP Q s) [0,4,7,8] (λk=>a4 (qS k)) [.v (.string b),.v (.string b),.v (.int .u64 0),I 0] [] s:=by refine LP.ind (λj:Int×Nat=>b.size-j.2) (λj=>j.2<=b.size) (λj=>[.v (.string b),.v (.string b),.v (.int .u64 j.1),I j.2]) (λ_=>[]) (λ_=>s) 0 (λ_ _=>⟨rfl,rfl,rfl⟩) (λj i k f=>?_) (0,0) Z;have ⟨n,j⟩:=j;simp only at i;simp [qS];apply ST.dc<;>intro h;have a:=λn=>f (n,j+1) _ [] _ rfl rfl rfl h W;simp at a;simp [dD h,a,wn (j:=j) O];simp [Ds];exact c _ ⟨_,_,rfl,by first|exact BA _|omega⟩
  apply ST.dc<;>intro h;simp [h];exact c _ ⟨_,_,rfl,by first|exact BA _|omega⟩;simp [h];apply ST.dc<;>intro h;simp [h];apply ST.mk<;>intro h;simp;exact c _ ⟨_,_,rfl,by first|exact BA _|omega⟩;exact m;simp [h];exact m
 apply ST.dc<;>intro h;simp [h];apply ST.dc<;>intro h;simp;exact c _ ⟨_,_,rfl,by first|exact BA _|omega⟩;exact l;simp [h];exact l
theorem Md {d:aU} (h:a+c<b) (e:b<=d.size):jy (d.extract a b) c=jy d (a+c):=by
 unfold jy;have:(d.extract a b).data.toList=(d.data.toList.take b).drop a:=by
  rw [ByteArray.data_extract,Array.toList_extract,wF,<-List.drop_take]
  skip
 rw [this,zG,zG,yX,zS,zP h]
theorem jP {c:aU} (d:b<=c.size):(c.extract a b).size=b-a:=by rw [xJ];omega
theorem a0w (h:cls i=3):48<=i/\i<=57:=by unfold cls at h;split at h;omega;split at h;omega;split at h <;> omega
theorem T9 (b:aU) (i:Nat):0<=jy b i/\jy b i<256:=by unfold jy;have:=(b.data.toList.getD i 0).toNat_lt;omega
def Oh (b:aU) (i:Nat) (r:TV):Prop:=∃(t:Tok) (j:Nat) (e:Int),r= .tu [.ag (df t),I j,I e]/\(e=0->i<j/\j<=b.size/\1<=t.kind/\t.kind<=7)
theorem n101 (b:aU) (H:b.size<1000000000000) (i:Nat) (hi:i<b.size) (E:cls (jy b i)=3):EP prog 101 [.v (.string b),I i] λr=>Oh b i r:=by
 refine EP.o T3 λs Q g=>?_;simp [UP];refine LP.ind (λj:Nat=>b.size-j) (λj=>i<=j/\j<=b.size/\(∀f,i<=f->f<j->cls (jy b f)=3)) (λj=>[.v (.string b),I i,.p false 0 0,I j]) (λ_=>[.row bS 0]) (λ_=>s) 1 (λ_ _=>⟨rfl,rfl,rfl⟩) (λj K k p=>?_) i ⟨O,O,λ_ _ _=>O⟩;have ⟨g1,c,w⟩:=K;simp [uM];have D:(¬j<b.size\/cls (jy b j)≠3)->vu (X:=PX prog s Q) (.v (.string b)) (I i) (.p false 0 0) (I j) [.row bS 0] s:=by
  intro L;have J:i<j:=by
   rcases zZ i j with h|h;exact h;have:j=i:=by omega
   subst this;rcases L with h|h;omega;exact absurd E h
  simp [vu];apply CP.o (n99 b H j c);rintro _ ⟨e,rfl,k1,k2,k3,_⟩;have N:∀(q m:Int) (e x:Nat),q=3\/q=4->j<=e->e<=b.size->i<=x->x<j->vw (X:=PX prog s Q) (.v (.string b)) (I x) (.p false 0 0) (I j) (I e) (.p false 1 0) (I m) [.row bS 0,.row [U q,I 0,I 0,I 0,S []] 0] s:=by intro q m e x z y o c3 c4;simp [vw,A2 (lo:=(x:Int)) (hi:=(j:Int)) (b:=b) O O O];refine CP.o (n145 (b.extract x j) (by rw [jP c];omega) (by rw [jP c];omega) λc6 M=>?_) ?_;rw [jP c] at M;rw [Md O c];exact a0w (w _ O O);rintro _ ⟨c5,er,rfl,c2⟩;simp;apply ST.dc<;>intro h;simp [h];apply ST.dc<;>intro a;simp;exact g _ ⟨(Tok.mk _ _ _ _ dm),0,14,rfl,λh=>by cases h⟩;simp;exact g _ ⟨(Tok.mk _ _ _ _ dm),e,0,rfl,λ_=>⟨O,o,W,W⟩⟩;simp [h];exact g _ ⟨(Tok.mk _ _ _ _ dm),0,14,rfl,λh=>by cases h⟩
  have C:∀(q m:Int) (e:Nat),q=3\/q=4->j<=e->e<=b.size->LP prog s.length (RP Q s) [0,1,4,7,8,9,10] (λk=>a7 (qY k)) [.v (.string b),I i,.p false 0 0,I j,I e,.p false 1 0,I m] [.row bS 0,.row [U q,I 0,I 0,I 0,S []] 0] s:=by intro q m e z y o;refine LP.ind (λx:Nat=>j-x) (λx=>i<=x/\x<j) (λx=>[.v (.string b),I x,.p false 0 0,I j,I e,.p false 1 0,I m]) (λ_=>[.row bS 0,.row [U q,I 0,I 0,I 0,S []] 0]) (λ_=>s) 2 (λ_ _=>⟨rfl,rfl,rfl⟩) (λx A k p=>?_) i ⟨O,J⟩;have w1:i64.wrap ((j:Int)-1)=(j:Int)-1:=bW O O;have t:=N q m e x z y o A.1 A.2;simp at t;simp [qY,w1];apply ST.dc<;>intro h;have d:=p (x+1) _ [.row bS 0,.row [U q,I 0,I 0,I 0,S []] 0] _ rfl rfl rfl ⟨O,O⟩ O;simp at d;simp [h,dD (b:=b) (i:=x) O];apply ST.dc<;>intro a;simp [d,wn (j:=x) O];simpa [a] using t;simpa [h] using t
  have w2:=wn (j:=j) O;have l:=C 3 9223372036854775807 e (.inl rfl);have n:=C 4 8388607 e (.inr rfl);simp at l n;simp [w2];have v:=λb6=>g _ ⟨b6,0,4,rfl,λh=>by cases h⟩;apply ST.dc<;>intro h;have F:j<b.size:=by omega
  simp [h,dD F];apply ST.dc<;>intro a;simp;rw [h] at n;exact n O O;simp [show ¬(j:Int)+1=j by omega];exact v (Tok.mk _ _ _ _ dm);simp [h];apply ST.dc<;>intro a;simp [a];rw [a] at l;exact l O O;simp;exact v (Tok.mk _ _ _ _ dm)
 apply ST.dc<;>intro h;simp [dD h,T8,h];apply ST.dc<;>intro a;have d:=p (j+1) _ [.row bS 0] _ rfl rfl rfl ⟨O,h,λf P R=>by rcases Nat.lt_succ_iff_lt_or_eq.1 R with q|rfl;exact w f P q;exact a⟩ O
 simp at d;simp [d,wn (j:=j) O];simpa [a] using D (.inr a);simpa [h] using D (.inl h)
end
section
variable {s:ae} {fl:Nat} {J:dL} {E:ae}
theorem bD {c:Type} {f:c->ao} (h:∀x,(Nat.beq (f x).length a&&(bif Nat.beq b 0 then pK (f x) else mX (f x)))=true) (L:List c):cR b a (L.map f):=by
 induction L with
 | nil=>rfl
 | cons d L e=>simp only [yS,cR,h d,e,Bool.and_self]
theorem yq (h:a<=1000000000) (c:b<=1000):fits a b:=by have:=Nat.mul_le_mul h c;simp only [fits,decide_eq_true_eq];omega
theorem ya {fl:Nat} {c d:cD} {s:ae} (k:aO r s x=some d) (e:cR 0 a c) (f:cR 0 a d) (g:c.length+d.length<=1000000000) (h:b<=1000) (i:0<a) (j:c++d≠[]):cq false a b 0 fl (.sl true c) x r s=some (.sl true (c++d),r,s):=by unfold cq;rw [k];have:=yq g h;simp only [e,f,this,i,and_self,or_true,if_true,j,if_false,db]
@[simp] def oV (n:Int):ao:=[U n]
theorem a0H (L:List Int):cR 0 1 (L.map oV):=bD (λx=>rfl) L
theorem Th {fl:Nat} {l s:ae} {o:Bool} (L:List Int) (c:Int) (h:L.length<1000000000):cq false 1 1 0 fl (.sl true (L.map oV)) (.sl o [[U c]]) l s=some (.sl true ((L++[c]).map oV),l,s):=by rw [ya rfl (a0H L) rfl W O O Z];simp
theorem nV (L:List Int):cN (L.map oV)=some (L.map λn=>UInt8.ofNat n.toNat):=by
 induction L with
 | nil=>rfl
 | cons a L b=>simp [cN,b]
theorem sI {a:cD} {s:ae}:bJ prog 77 9 (.sl q a) r s=(cN a).map λbs=>.v (.string ⟨bs.toArray⟩):=by unfold bJ;rw [show prog.underlying 77=some (.slice 5) by kernel_rfl,show prog.underlying 9=some .string by kernel_rfl];simp only;rw [show prog.underlying 5=some (.int .u8) by kernel_rfl]
theorem n146 (c:Int):EP prog 146 [U c] λr=>∃x:Int,r=I x/\x<1000/\(0<=c->c<256->-1<=x):=by refine EP.o Sl λs Q d=>?_;have w:∀x:Int,0<=x->x<256->i64.wrap x=x:=λx a b=>bW O O;have i:∀x:Int,-1<=x->x<256->i64.wrap x=x:=λx a b=>bW O O;by_cases a:48<=c <;> by_cases b:c<=57 <;> by_cases e:97<=c <;> by_cases f:c<=102 <;> by_cases g:65<=c <;> by_cases h:c<=70 <;> first|omega|(simp [Un,a,b,e,f,g,h];first|(refine d _ ⟨_,rfl,O,O⟩;done)|(rw [w c O O,i _ O O];exact d _ ⟨_,rfl,O,O⟩))
theorem n102 (b:aU) (hb:b.size<100000000):EP prog 102 [.v (.string b)] λc5=>∃(t:aU) (n:Int) (w:Bool),c5= .tu [.v (.string t),I n,B w]/\(w=true->0<n/\n<=b.size/\t.size<=b.size):=by
 refine EP.o T1 λs Q A=>?_;have bad:=λt n=>A _ ⟨t,n,false,rfl,Z⟩;have K:=λt n e l y=>A _ ⟨t,n,true,rfl,λ_=>⟨e,l,y⟩⟩;have c3:0<b.size->LP prog s.length (RP Q s) [0,5,6] (λk=>a3 (qX k)) [.v (.string b),.sl true [],I 1] [] s:=by
  intro o;refine LP.ind (λj:List Int×Nat=>b.size-j.2) (λj=>j.1.length<=j.2/\1<=j.2/\j.2<=b.size) (λj=>[.v (.string b),.sl true (j.1.map oV),I j.2]) (λ_=>[]) (λ_=>s) 0 (λ_ _=>⟨rfl,rfl,rfl⟩) (λj R k hk=>?_) ([],1) ⟨Z,Z,o⟩;have ⟨L,j⟩:=j;have ⟨d,H,f⟩:=R;simp only at d H f;have v:∀(c:Int) (x:Nat),j<=x->x<b.size->kK (X:=PX prog s Q) k (.v (.string b)) (.sl true ((L++[c]).map oV)) (I x) [] s:=λc x e l=>by have C:=hk (L++[c],x+1) _ [] _ rfl rfl rfl ⟨W,Z,l⟩ W;simp at C;simp [kK,wn (j:=x) O,C]
  simp [qX];apply ST.dc<;>intro h
  ·simp [dD h];have ap:=λfl c2 s c4 c=>Th (fl:=fl) (l:=c2) (s:=s) (o:=c4) L c O;have g:=λc=>v c j (zC _) h;have E:=wn (j:=j) O;have ht:=T9 b j;generalize jy b j=x at*;simp at g ap;apply ST.dc<;>intro e;simp [e,bad];simp [e];apply ST.dc<;>intro l;simp [bad];simp;apply ST.dc<;>intro y;simp [sI,nV,E];apply K _ _ O O;simp only [ByteArray.size,List.size_toArray,yQ];exact yI d f;simp;apply ST.dc<;>intro M;rotate_left;simp [ap,g];simp [E];apply ST.dc<;>intro N;simp [bad];have b1:j+1<b.size:=O;have q:=λk=>sF (k:=k) (m:=(j:Int)+1) (b:=b) ⟨O,O⟩;have d:=λc=>v c (j+1) O b1;simp at d q;generalize (((b.data[j+1]?.getD 0).toNat:Nat):Int)=c6 at*;have b6:LP prog s.length (RP Q s) [0,5,6,8] (λJ=>a4 (qW k J)) [.v (.string b),.sl true (L.map oV),I ((j:Int)+1),I 1] [] s:=by
    refine LP.ind (λx:Nat=>3-x) (λx=>1<=x/\x<=3/\j+x<b.size) (λx=>[.v (.string b),.sl true (L.map oV),I ((j:Int)+1),I x]) (λ_=>[]) (λ_=>s) 0 (λ_ _=>⟨rfl,rfl,rfl⟩) (λx hx k2 b2=>?_) 1 ⟨O,O,O⟩;have ⟨x1,x2,x3⟩:=hx;have w3:i64.wrap ((j:Int)+1+1)=(j:Int)+2:=by rw [bW O O];omega
    have F:i64.wrap ((j:Int)+1+2)=(j:Int)+3:=by rw [bW O O];omega
    have r:i64.wrap ((j:Int)+1+x)=(j:Int)+1+x:=bW O O;simp [qW];apply ST.dc<;>intro p;have D:=b2 (x+1) _ [] _ rfl rfl rfl;simp at D;simp [r];apply ST.dc<;>intro a;simp [a,bad,r];have tz:=sF (k:=.i64) (m:=(j:Int)+1+x) (b:=b) ⟨O,O⟩;simp [a,r,tz];apply CP.o (n146 _);rintro _ ⟨z,rfl,_⟩;simp;apply ST.dc<;>intro P;simp [bad,r];simp [wn (j:=x) O];exact D O O O;have:x=3:=by omega
    subst this;have t2:=sF (k:=.i64) (m:=(j:Int)+2) (b:=b) ⟨O,O⟩;have t3:=sF (k:=.i64) (m:=(j:Int)+3) (b:=b) ⟨O,O⟩;have f:=λc=>v c (j+3) O O;simp at f;simp [Dy,w3,F,t2,t3];apply CP.o (n146 _);rintro _ ⟨z,rfl,_⟩;simp;apply CP.o (n146 _);rintro _ ⟨z,rfl,_⟩;simp [ap,F,f]
   simp [q];apply ST.dc<;>intro p;simp [p,ap,d,q];simp;apply ST.dc<;>intro a;simp [a,ap,d,q];simp;apply ST.dc<;>intro a;simp [ap,d];simp;apply ST.dc<;>intro a;simp [ap,d];simp;apply ST.dc<;>intro a;exact b6;simp [bad]
  simp [Dz,bad]
 simp [UO];have:=bad (⟨#[]⟩) 0;apply ST.dc<;>intro h;simp [h,this];have o:0<b.size:=Nat.pos_of_ne_zero (Zs h);have t0:∀k,mn prog 9 (.v (.string b)) (.v (.int k 0))=some (U (jy b 0)):=λk=>dD (i:=0) o;simp [h,t0];apply ST.dc<;>intro h;simp;exact c3 o;simp [this]
end
section
theorem n64 (b:aU) (hb:b.size<=100000) (i:Nat) (f:i<b.size):EP prog 64 [.v (.string b),I i] λc3=>Oh b i c3:=by
 refine EP.o e64 λs Q E=>?_;have P:=λt=>E _ ⟨t,0,4,rfl,λh=>by cases h⟩;have H:=P (Tok.mk 0 0 0 0 dm);have r:=λt j a d p D=>E _ ⟨t,j,0,rfl,λ_=>⟨a,d,p,D⟩⟩;have k2:D4 (X:=PX prog s Q) (.v (.string b)) (I i) (.p false 0 0) [.row bS 0] s:=by simp [D4];obtain ⟨w,A,hl⟩:∃w:aU,S [43,45,42,47,37,60,62,33,61,40,41,123,125,91,93,44,59,58,46]= .v (.string w)/\w.size=19:=⟨_,rfl,rfl⟩;rw [A];clear A;refine LP.ind (λj:Nat=>w.size-j) (λj=>True) (λj=>[.v (.string b),I i,.p false 0 0,.v (.string w),I j]) (λ_=>[.row bS 0]) (λ_=>s) 1 (λ_ _=>⟨rfl,rfl,rfl⟩) (λj _ k F=>?_) 0 trivial;simp [BU];apply ST.dc<;>intro h;have q:=F (j+1) _ [.row bS 0] _ rfl rfl rfl trivial O;have y:=wn (j:=j) O;simp at q;simp [dD f,dD h];apply ST.dc<;>intro a;have z:=wn (j:=i) O;simp [y,z,A2 (lo:=(j:Int)) (hi:=(j:Int)+1) (b:=w) O O O];exact r (Tok.mk 7 _ _ _ ⟨w.extract j (j+1),by rw [xJ];omega⟩) (i+1) O O Z Z;simp [y,q];simp [IZ];exact H
 have k3:∀v:cD,v.length=6->(∀e∈v,∃b:aU,e=[.v (.string b)]/\b.size<=100000)->LP prog s.length (RP Q s) [0,1,4,12,73,74] (λk=>a6 (xi k)) [.v (.string b),I i,.p false 0 0,.sl true v,I 6,I 0] [.row bS 0] s:=by intro v hl hq;refine LP.ind (λj:Nat=>6-j) (λj=>True) (λj=>[.v (.string b),I i,.p false 0 0,.sl true v,I 6,I j]) (λ_=>[.row bS 0]) (λ_=>s) 1 (λ_ _=>⟨rfl,rfl,rfl⟩) (λj _ k F=>?_) 0 trivial;simp [xi];apply ST.dc<;>intro h;obtain ⟨_,a,c,rfl,b1⟩:=Fw hq (j:=j) O;have q:=F (j+1) _ [.row bS 0] _ rfl rfl rfl trivial O;have y:=wn (j:=j) O;have z:i64.wrap ((i:Int)+2)=(i:Int)+2:=bW O O;simp at q;simp [z];apply ST.dc<;>intro d;simp [d,A2 (lo:=(i:Int)) (hi:=(i:Int)+2) O O O,a,z];apply ST.dc<;>intro p;simp [a,z];exact r (Tok.mk 7 _ _ _ ⟨c,b1⟩) (i+2) O O Z Z;simp [y,q];simp [d,y,q];simpa using k2
 simp [b64,dD f,T8];generalize x:cls (jy b i)=c;have M:∀e:Nat,i<e->e<=b.size->∀l s (k K:IntKind),aK prog 9 (some (.v (.int k (i:Int)))) (some (.v (.int K (e:Int)))) none l s (.v (.string b))=some (.v (.string (b.extract i e))):=λe a d l s k K=>by simpa using A2 (lo:=(i:Int)) (hi:=(e:Int)) O O O
 by_cases a:c=1;subst a;simp;apply CP.o (n99 b O i O);rintro _ ⟨e,rfl,R,n,g3,C⟩;have o:i<e:=by
  rcases zZ i e with h|h;exact h;have:e=i:=by omega
  subst this;have:=C f;rw [x] at this;omega
 simp [M e o n,dD f,T8,x];apply CP.o (n100 _);rintro _ ⟨c5,rfl⟩;simp;apply ST.mk<;>intro h;simp;exact r (Tok.mk 6 _ _ _ ⟨b.extract i e,by rw [xJ];omega⟩) e o n Z Z;simp;exact r (Tok.mk 1 _ _ _ ⟨b.extract i e,by rw [xJ];omega⟩) e o n Z Z;by_cases d:c=2;subst d;simp;apply CP.o (n99 b O i O);rintro _ ⟨e,rfl,R,n,g3,C⟩;have o:i<e:=by
  rcases zZ i e with h|h;exact h;have:e=i:=by omega
  subst this;have:=C f;rw [x] at this;omega
 simp [M e o n,dD f,T8,x];exact r (Tok.mk 2 _ _ _ ⟨b.extract i e,by rw [xJ];omega⟩) e o n Z Z;by_cases p:c=3;subst p;simp;apply CP.o (n101 b O i f x);rintro _ ⟨t,j,N,rfl,g⟩;simp;exact E _ ⟨t,j,N,rfl,g⟩;simp [a,d,p,dD f];apply ST.dc<;>intro D;have L:=Il (lo:=(i:Int)) (b:=b) (k:=.i64) (l:=[.row bS 0]) (s:=s) O O;simp at L;simp [L];have J:(b.extract i b.size).size=b.size-i:=jP (zC _);refine CP.o (n102 _ (by rw [J];omega)) ?_;rintro _ ⟨t,c2,w,rfl,A⟩;cases w with
 | false=>simp;exact H
 | true=>have ⟨c4,b2,b6⟩:=A rfl;rw [J] at b2 b6;obtain ⟨m,rfl⟩:=yE (show 0<=c2 by omega);have w3:i64.wrap ((i:Int)+m)=(i:Int)+m:=bW O O;simp [w3];exact r (Tok.mk 5 _ _ _ ⟨t,O⟩) (i+m) O O Z Z
 have:=k3 [[S [38,38]],[S [124,124]],[S [61,61]],[S [33,61]],[S [60,61]],[S [62,61]]] rfl (by simp;decide);simp at this;simp;exact this
theorem XM (L:List Tok):cR 0 5 (L.map df):=bD (λx=>rfl) L
theorem sM {fl:Nat} {l s:ae} {o:Bool} (L:List Tok) (h:L.length<1000000000) (a b c d:Int) (x:Tx) (e:-9223372036854775808<=d):cq false 5 48 0 fl (.sl true (L.map df)) (.sl o [[U a,I b,I c,I d,.v (.string x.1)]]) l s=some (.sl true ((L++[(Tok.mk a b c d x e)]).map df),l,s):=by rw [ya rfl (XM L) rfl W O O Z];simp
structure eY (L:List Tok):Prop where
 last:∀i t,L[i]? =some t->t.kind≠8->i+1<L.length
 gQ:L.length<=2500
 one:0<L.length
theorem n45 (b:aU) (hb:b.size<=2000):EP prog 45 [.v (.string b)] λb1=>∃(L:List Tok) (o:Bool) (c l k:Int),b1= .tu [.sl o (L.map df),.ag [I c,I l,I k]]/\(c=0->eY L):=by
 refine EP.o e45 λs Q C=>?_;have bad:=λo c l k h=>C _ ⟨[],o,c,l,k,rfl,λe=>absurd e h⟩;have N:=λL o h=>C _ ⟨L,o,0,0,0,rfl,λ_=>h⟩;simp [b45];apply ST.dc<;>intro h;simp;exact bad _ _ _ _ O;simp;apply CP.o (n62 b O 0 O);rintro _ ⟨i0,rfl,K,v⟩;simp;refine LP.ind (λj:List Tok×Nat×Nat×Int×Int=>b.size-j.2.1) (λj=>j.1.length<=j.2.1/\j.2.1<=b.size/\j.2.2.1<=j.2.1/\∀t∈j.1,t.kind≠8) (λj=>[.v (.string b),.p false 0 0,.sl true [],.sl true (j.1.map df),I j.2.1,I j.2.2.1,I j.2.2.2.1,I j.2.2.2.2]) (λ_=>[.row [I 0,I 0,I 0] 0]) (λ_=>s) 1 (λ_ _=>⟨rfl,rfl,rfl⟩) (λj P k R=>?_) ([],i0,0,1,1) ⟨Z,v,Z,Z⟩;have ⟨L,i,f,x,y⟩:=j;have ⟨q1,q2,q3,F⟩:=P;simp only at q1 q2 q3 F;have A:L.length<1000000000:=O;have w1:i64.wrap ((i:Int)-f)=((i-f:Nat):Int):=by rw [bW O O];omega
 have E:(b.extract f b.size).size=b.size-f:=jP (zC _);have H:=Il (lo:=(f:Int)) (b:=b) (k:=.i64) (l:=[.row [I 0,I 0,I 0] 0]) (s:=s) O O;simp at H;have q:∀(x y:Int),b.size<=i->Q (.tu [.sl false ((L++[(Tok.mk 8 x y 0 dm)]).map df),.ag [I 0,I 0,I 0]]):=λx y D=>by
  refine N _ _ ⟨λj t m d=>?_,W,Z⟩;rw [List.getElem?_append] at m;split at m;simp;omega;have:j-L.length=0:=by rcases Nat.eq_zero_or_pos (j-L.length) with e|e;exact e;rw [xE W] at m;cases m
  rw [this] at m;cases m;exact absurd rfl d
 have w:∀(X a:Int),i<b.size->CL prog 64 [.v (.string b),I i] s.length (λz=>ex (X:=PX prog s Q) 0 z λb2=>ex 1 (ct 0 z) λb6=>ex 2 (ct 1 (ct 0 z)) λJ=>al bS 0 λp=>st 5 p b2 λ_=>
   bo .neq 3 (bw J) (I 0) λc2=>br c2
    (bu gJ kD [(0,J),(1,I X),(2,I a)] λc3=>st 3 (.p false 0 0) c3 λ_=>lt true 3 (.p false 0 0) λc4=>rt (.tu [.sl true [],c4]))
    (pa 1 p λc5=>st 1 c5 (bw (I X)) λ_=>pa 2 p λBi=>st 1 Bi (bw (I a)) λ_=>lg 5 p λc6=>bs 0 1 bS [(0,c6)] λc7=>ap false 5 48 0 (.sl true (L.map df)) c7 λc8=>af 62 [.v (.string b),b6] λc9=>k [.v (.string b),.p false 0 0,.sl true [],c8,c9,bw (I i),I X,I a])) [.row [I 0,I 0,I 0] 0] s:=by
  intro X a D;apply CP.o (n64 b O i D);rintro _ ⟨t,e,er,rfl,g⟩;simp;apply ST.dc<;>intro h;have ⟨K,v,g3,g4⟩:=g h;have n:=λr l s o=>sM (fl:=r) (l:=l) (s:=s) (o:=o) L A t.kind X a t.num t.text t.fH;simp at n;simp [n];apply CP.o (n62 b O e v);rintro _ ⟨j,rfl,g5,M⟩;simp;refine R (L++[Tok.mk t.kind X a t.num t.text t.fH],j,i,X,a) _ _ _ Z rfl rfl ⟨W,M,W,λu hu=>?_⟩ W;rcases xC.1 hu with h|h;exact F u h;simp at h;subst h;simp;omega;simp;exact bad _ _ _ _ h
 simp [C2,H,w1];refine CP.o (n63 (b.extract f b.size) (by rw [E];omega) (i-f) (by rw [E];omega)) ?_;rintro _ ⟨x1,y1,rfl⟩;simp;have n:=λr l s o X a=>sM (fl:=r) (l:=l) (s:=s) (o:=o) L A 8 X a 0 dm;simp at n q w;apply ST.dc<;>intro h;simp;apply ST.dc<;>intro d;simp [n];exact q _ _ d;simp;exact w _ _ O;simp;apply ST.dc<;>intro d;simp [n];exact q _ _ d;simp;exact w _ _ O
end
structure Vl where
 k:Int
 n:Int
 re:Int
 im:Int
 k0:0<=k
 ok:k=1->-9223372036854775808<=n
@[simp] def aw (x:Vl):ao:=[U x.k,I x.n,I x.re,I x.im]
theorem vlZ (L:List Vl):cR 0 4 (L.map aw):=bD (λx=>rfl) L
def vz:Vl:=⟨0,0,0,0,O,O⟩
theorem zp (x:Int):-9223372036854775808<=i64.wrap x:=by simp only [IntKind.wrap,IntKind.signed,IntKind.bits];simp;split <;> omega
def lu (x:Int) (h:-9223372036854775808<=x):Vl:=⟨1,x,0,0,O,λ_=>h⟩
def jB (b:Bool):Vl:=⟨2,if b=true then 1 else 0,0,0,O,O⟩
def pV (b a:Int):Vl:=⟨4,0,b,a,O,O⟩
theorem ZT (a:Int):EP prog 166 [I a] (· =I (i64.wrap (0-a))):=by refine EP.o S2 λs Q b=>?_;simp [U8];exact b _ Z
theorem ZD (a b:Int):EP prog 202 [I a,I b] (· =I (i64.wrap (a+b))):=by refine EP.o Rr λs Q c=>?_;simp [TM];exact c _ rfl
theorem ZC (a b:Int):EP prog 203 [I a,I b] (· =I (i64.wrap (a-b))):=by refine EP.o Rq λs Q c=>?_;simp [TL];exact c _ rfl
theorem ZB (a b:Int):EP prog 204 [I a,I b] (· =I (i64.wrap (a*b))):=by refine EP.o Rp λs Q c=>?_;simp [TK];exact c _ rfl
theorem ZA (a b:Int):∃(n:Int) (f:Bool),(f=true->-9223372036854775808<=n)/\EP prog 205 [I a,I b] (· = .tu [I n,B f]):=by by_cases d:b=0;refine ⟨0,false,Z,EP.o HD λs Q c=>?_⟩;simp [HT,d];exact c _ rfl;by_cases e:b= -1;refine ⟨_,true,λ_=>zp (0-a),EP.o HD λs Q c=>?_⟩;subst e;simp [HT];exact c _ Z;refine ⟨_,true,λ_=>zp (a.tdiv b),EP.o HD λs Q c=>?_⟩;simp [HT,d,e,uZ d];exact c _ rfl
theorem Zu (a b:Int):∃n:Int,EP prog 220 [I a,I b] (· =I n):=by
 have d:∀a:Int,EP prog 227 [I a] (· =B false):=λa=>by refine EP.o R7 λs Q c=>?_;simp [Tq];exact c _ rfl
 by_cases h:a<b;refine ⟨-1,EP.o HB λs Q c=>?_⟩;simp [HQ,CP.q (d _),h];exact c _ rfl;by_cases e:b<a;refine ⟨1,EP.o HB λs Q c=>?_⟩;simp [HQ,CP.q (d _),h,e];exact c _ rfl;refine ⟨0,EP.o HB λs Q c=>?_⟩;simp [HQ,CP.q (d _),h,e];exact c _ rfl
theorem ZE (a b:Int):∃n:Int,EP prog 201 [I a,I b] (· =I n):=by have ⟨n,h⟩:=Zu a b;refine ⟨n,EP.o Rs λs Q c=>?_⟩;simp [TN,CP.q h];exact c _ rfl
end T
namespace T
open Go V Q
variable {a b c d e f g:Nat} {u w:Value} {i j k:Int} {t:TypeId} {p:List Value} {q:Bool} {n:IntKind} {x y z:TV} {r s:List TO} {o:List TV}
theorem dO {c:Type} {f:c->ao} {b fl:Nat} {l s:ae} {o:Bool} (j:∀L:List c,cR 0 a (L.map f)) (g:0<a) (e:b<=1000) (K M:List c) (h:K.length+M.length<=1000000000):cq false a b 0 fl (.sl true (K.map f)) (.sl o (M.map f)) l s=some (.sl true ((K++M).map f),l,s):=by have d:=yq h e;unfold cq;simp only [aO,j,yQ,d,g,and_self,or_true,if_true,db,xR];split;rename_i i;rw [i];rfl
structure Nd where
 kind:Int
 line:Int
 nH:Int
 size:Int
 num:Int
 text:Tx
 fH:-9223372036854775808<=num:=by omega
@[simp] def bG (t:Nd):ao:=[U t.kind,I t.line,I t.nH,I t.size,I t.num,.v (.string t.text.1)]
theorem ndZ (L:List Nd):cR 0 6 (L.map bG):=bD (λx=>rfl) L
theorem eu {fl:Nat} {l s:ae} {o:Bool} (K M:List Nd) (h:K.length+M.length<=1000000000):cq false 6 56 0 fl (.sl true (K.map bG)) (.sl o (M.map bG)) l s=some (.sl true ((K++M).map bG),l,s):=dO ndZ O O K M h
structure PS where
 i:Nat
 d:Int
 c:Int
 l:Int
 k:Int
abbrev PS.v (L:List Tok) (p:PS):TV:=pv L p.i p.d p.c p.l p.k
def tk (L:List Tok) (i:Nat):Tok:=L.getD i (Tok.mk 0 0 0 0 dm)
theorem sE {L:List Tok} (h:a<L.length):L[a]? =some (tk L a):=by rw [tk,zG,zA h];rfl
def tw (L:List Tok) (i:Nat) (c:Int) (s:aU):Bool:=decide (c=0)&&(decide ((tk L i).kind=6)||decide ((tk L i).kind=7))&&decide ((tk L i).text.1=s)
structure ue (L:List Tok) (p q:PS):Prop where
 le:p.i<=q.i
 lt:q.i<L.length
 bad:p.c≠0->q.c≠0/\q.i=p.i
theorem ue.refl {L:List Tok} {p:PS} (h:p.i<L.length):ue L p p:=⟨zC _,h,λh=>⟨h,rfl⟩⟩
theorem ue.trans {L:List Tok} {p q r:PS} (h:ue L p q) (k:ue L q r):ue L p r:=
 ⟨yI h.le k.le,k.lt,λa=>⟨(k.bad (h.bad a).1).1,(k.bad (h.bad a).1).2.trans (h.bad a).2⟩⟩
section
variable {L:List Tok} {D:Nat} {E c l k:Int} {fl:Nat} {J:dL} {h s:ae}
theorem eU {s:aU} (h:tw L D c s):c=0/\((tk L D).kind=6\/(tk L D).kind=7)/\(tk L D).text.1=s:=by simpa [tw,and_assoc] using h
theorem lZ (a:D<L.length):CL prog 66 [pv L D E c l k] fl J h s=J (.ag (df (tk L D))) h s:=c66 (sE a)
theorem n67 (f:D<L.length) (b:aU):EP prog 67 [pv L D E c l k,.v (.string b)] λr=>r=B (tw L D c b):=by refine EP.o e67 λs Q d=>?_;simp [b67,lZ f];unfold tw at d;apply ST.dc<;>intro h;simp [h];apply ST.dc<;>intro a;simp [a];exact d _ (by simp [h,a]);simp [a];refine ST.dc (λe=>?_) λe=>?_ <;> simp [e] <;> exact d _ (by simp [h,a,e]);simp [h];exact d _ (by simp [h])
theorem jv (a:D<L.length) (b:aU):CL prog 67 [pv L D E c l k,.v (.string b)] fl J h s=J (B (tw L D c b)) h s:=CP.q (n67 a b)
theorem rK (b:D<L.length) (e:Int) (a:e≠0):EP prog 70 [pv L D E c l k,I e] λr=>∃q:PS,r=q.v L/\q.i=D/\q.c≠0:=EP.mono (n70 (sE b) e) λv h=>by subst h;split;exact ⟨⟨D,E,e,_,_⟩,rfl,rfl,a⟩;exact ⟨⟨D,E,c,_,_⟩,rfl,rfl,by assumption⟩
theorem n103 (g:eY L) (e:D<L.length) (b:aU):EP prog 103 [pv L D E c l k,.v (.string b)] λr=>∃q:PS,r=q.v L/\ue L ⟨D,E,c,l,k⟩ q/\(q.c=0->q.i=D+1)/\(tw L D c b=true->q.c=0):=by refine EP.o T0 λs Q f=>?_;have:=g.gQ;simp [UN,jv e];apply ST.mk<;>intro h;obtain ⟨rfl,a,d⟩:=eU h;simp [wn (j:=D) O];refine f _ ⟨⟨D+1,E,0,l,k⟩,rfl,⟨Z,?_,Z⟩,Z,Z⟩;exact g.last D _ (sE e) O;simp;apply CP.o (rK e 5 O);rintro _ ⟨q,rfl,a,d⟩;simp;exact f _ ⟨q,rfl,⟨by simp [a],O,λ_=>⟨d,a⟩⟩,λh=>absurd h d,λi=>by simp [h] at i⟩
theorem n104 (f:eY L) (d:D<L.length) (g:Int) (m:g≠8):EP prog 104 [pv L D E c l k,U g] λr=>∃(t:Tok) (q:PS),r= .tu [.ag (df t),q.v L]/\ue L ⟨D,E,c,l,k⟩ q/\(q.c=0->q.i=D+1):=by refine EP.o SZ λs Q e=>?_;have:=f.gQ;have bad:∀q:PS,q.i=D->q.c≠0->ue L ⟨D,E,c,l,k⟩ q/\(q.c=0->q.i=D+1):=λq a b=>⟨⟨by simp [a],O,λ_=>⟨b,a⟩⟩,λh=>absurd h b⟩;simp [UM,lZ d];apply ST.dc<;>intro h;subst h;simp;apply ST.dc<;>intro a;simp [a,wn (j:=D) O];refine e _ ⟨(Tok.mk _ _ _ _ _ (by first|exact Tok.fH _|omega)),⟨D+1,E,0,l,k⟩,rfl,⟨Z,f.last D _ (sE d) O,λi=>absurd rfl i⟩,Z⟩;simp;apply CP.o (rK d 5 O);rintro _ ⟨q,rfl,a,b⟩;simp;exact e _ ⟨(Tok.mk _ _ _ _ _ (by first|exact Tok.fH _|omega)),q,rfl,bad q a b⟩;simp [h];apply CP.o (rK d 5 O);rintro _ ⟨q,rfl,a,b⟩;simp;exact e _ ⟨(Tok.mk _ _ _ _ _ (by first|exact Tok.fH _|omega)),q,rfl,bad q a b⟩
theorem n105 (i:eY L) (e:D<L.length) (b:aU):EP prog 105 [pv L D E c l k,.v (.string b)] λr=>∃q:PS,r=q.v L/\ue L ⟨D,E,c,l,k⟩ q/\(q.c=0->q.i=D+1):=by
 refine EP.o SY λs Q f=>?_;simp [UL,jv e];have g:CL prog 103 [pv L D E c l k,.v (.string b)] s.length (λj=>st (X:=PX prog s Q) 6 (.p false 0 0) j λ_=>pa 2 (.p false 0 0) λm=>l1 m λn=>bo .add 3 n (I 1) λo=>pa 2 (.p false 0 0) λp=>st 1 p o λ_=>lg 6 (.p false 0 0) λt=>st 6 (.p false 1 0) t λ_=>lt true 6 (.p false 1 0) λv=>rt v) [.row [.sl false (L.map df),I D,I E,I c,I l,I k] 0,.row [N0,I 0,I 0,I 0,I 0,I 0] 0] s:=by apply CP.o (n103 i e b);rintro _ ⟨q,rfl,a,d,w⟩;simp;exact f _ ⟨⟨q.i,i64.wrap (q.d+1),q.c,q.l,q.k⟩,rfl,⟨a.le,a.lt,a.bad⟩,d⟩
 apply ST.mk<;>intro h;simp [h];apply ST.dc<;>intro a;simp;apply CP.o (rK e 6 O);rintro _ ⟨q,rfl,a,d⟩;simp;exact f _ ⟨q,rfl,⟨by simp [a],O,λ_=>⟨d,a⟩⟩,λh=>absurd h d⟩;simp;exact g;simp [h];exact g
theorem n107 (f:eY L) (g:D<L.length) (b:aU):EP prog 107 [pv L D E c l k,.v (.string b)] λr=>∃q:PS,r=q.v L/\ue L ⟨D,E,c,l,k⟩ q/\(q.c=0->q.i=D+1):=by refine EP.o SW λs Q e=>?_;simp [UJ];apply CP.o (n103 f g b);rintro _ ⟨q,rfl,a,d,h⟩;simp;exact e _ ⟨⟨q.i,i64.wrap (q.d-1),q.c,q.l,q.k⟩,rfl,⟨a.le,a.lt,a.bad⟩,d⟩
theorem Wk (b a a1 a2 a3 a4:Int) (a5:aU) (text:Tx) (K:List Nd) (f:K.length<1000000000) (c:-9223372036854775808<=a):EP prog 71 [U b,.ag [U a1,I a2,I a3,I a4,.v (.string a5)],.v (.string text.1),I a,.sl false (K.map bG)] λr=>r= .sl false (((Nd.mk b a2 a3 K.length a text c)::K).map bG):=by refine EP.o e71 λs Q e=>?_;have d:=λfl l s=>eu (fl:=fl) (l:=l) (s:=s) (o:=false) [Nd.mk b a2 a3 K.length a text c] K W;simp at d;simp [b71,d];exact e _ Z
theorem n110 (K M:List Nd) (h:K.length+M.length<=1000000000):EP prog 110 [.sl false (K.map bG),.sl false (M.map bG)] λr=>r= .sl false ((K++M).map bG):=by refine EP.o SP λs Q c=>?_;have a:=λfl l s=>eu (fl:=fl) (l:=l) (s:=s) (o:=false) [] K W;have b:=λfl l s=>eu (fl:=fl) (l:=l) (s:=s) (o:=false) K M h;simp at a b;simp [UG,a,b];exact c _ Z
end
end T
namespace T
open Go V Q
variable {a b c d e f g:Nat} {u v w:Value} {i j k:Int} {t:TypeId} {p:List Value} {q:Bool} {n:IntKind} {x y z:TV} {r s:List TO} {o:List TV}
structure Ch (L:List Tok) (p:PS) (n:Nat) (q:PS) (g e f:Int):Prop where
 cS:ue L p q
 ok:q.c=0->(n:Int)+g<=100*((q.i:Int)-p.i)
 sz:(n:Int)<=100*((q.i:Int)-p.i)+e
 bad:p.c≠0->(n:Int)<=f
section
variable {L:List Tok} {D E r:PS} {n m:Nat} {h J f g' e' f':Int}
theorem Ch.trans (b:Ch L D n E h J f) (k:Ch L E m r g' e' f'):Ch L D (n+m) r (h+g') (max (e'-h) (J+f')) (f+f'):=by
 refine ⟨b.cS.trans k.cS,λd=>?_,?_,λc=>?_⟩;have a:E.c=0:=by by_cases a:E.c=0;exact a;exact absurd d (k.cS.bad a).1
 have:=b.ok a;have:=k.ok d;omega;by_cases a:E.c=0;have:=b.ok a;have:=k.sz;omega;have:=b.sz;have:=k.bad a;have:=(k.cS.bad a).2;omega;have:=b.bad c;have:=k.bad (b.cS.bad c).1;omega
theorem Ch.node (a:Ch L D n E h J f):Ch L D (n+1) E (h-1) (J+1) (f+1):=⟨a.cS,λc=>by have:=a.ok c;omega,by have:=a.sz;omega,λb=>by have:=a.bad b;omega⟩
theorem Ch.iH (a:Ch L D n E h J f) (d:g'<=h) (e:J<=e') (g:f<=f'):Ch L D n E g' e' f':=⟨a.cS,λc=>by have:=a.ok c;omega,by have:=a.sz;omega,λb=>by have:=a.bad b;omega⟩
theorem Ch.to (a:Ch L D n E h J f) (e:m=n) (b:g'<=h) (c:J<=e') (d:f<=f'):Ch L D m E g' e' f':=by subst e;exact a.iH b c d
theorem Ch.nb (a:Ch L D n E h J f) (b:D.c=0):Ch L D n E h J (-100):=⟨a.cS,a.ok,a.sz,λa=>absurd b a⟩
theorem Ch.refl (h:D.i<L.length):Ch L D 0 D 0 0 0:=⟨ue.refl h,λ_=>O,O,λ_=>O⟩
theorem Ch.sure (h:Ch L D 0 E 100 J f) (a:D.c=0) (b:E.c=0):Ch L D 0 E 100 (-100) (-100):=⟨h.cS,h.ok,by have:=h.ok b;omega,λh=>absurd a h⟩
theorem Ch.one (h:ue L D E) (a:E.c=0->E.i=D.i+1):Ch L D 0 E 100 0 0:=⟨h,λb=>by have:=a b;omega,by have:=h.le;omega,λ_=>O⟩
theorem Ch.lt (a:Ch L D n E h J f) (c:0<h) (b:E.c=0):D.i<E.i:=by have:=a.ok b;omega
end
def NR (L:List Tok) (e f:Int) (p:PS) (r:TV):Prop:=∃(N:List Nd) (q:PS),r= .tu [.sl false (N.map bG),q.v L]/\1<=N.length/\Ch L p N.length q 4 e f
def mz (L:List Tok) (p:PS):Nat:=if p.c=0 then L.length-p.i else 0
section
variable {L:List Tok} {fl:Nat} {k':dL} {l' s:ae}
theorem Pp {p q:PS} (b:p.i<L.length) (a:p.c=0) (h:q.c=0->p.i<q.i):mz L q<mz L p:=by unfold mz;rw [zP a];split;have:=h (by assumption);omega;omega
theorem Ch.mz {p q:PS} (h:Ch L p a q i j k) (d:p.i<L.length) (b:p.c=0) (c:0<i):T.mz L q<T.mz L p:=Pp d b λe=>h.lt c e
theorem Ch.gQ {p q:PS} (h:Ch L p a q i j k) (b:eY L) (c:j<=1000):a<200000000:=by have:=h.sz;have:=h.cS.lt;have:=h.cS.le;have:=b.gQ;omega
theorem fC (f:eY L) (p:PS) (g:p.i<L.length) (b:aU):EP prog 103 [p.v L,.v (.string b)] λr=>∃q:PS,r=q.v L/\Ch L p 0 q 100 0 0/\(tw L p.i p.c b=true->q.c=0):=EP.mono (n103 f g b) λv ⟨q,a,c,d,e⟩=>⟨q,a,Ch.one c d,e⟩
theorem vN (e:eY L) (p:PS) (g:p.i<L.length) (a:Int) (f:a≠8):EP prog 104 [p.v L,U a] λr=>∃(t:Tok) (q:PS),r= .tu [.ag (df t),q.v L]/\Ch L p 0 q 100 0 0:=EP.mono (n104 e g a f) λv ⟨t,q,b,c,d⟩=>⟨t,q,b,Ch.one c d⟩
theorem oC (e:eY L) (p:PS) (f:p.i<L.length) (b:aU):EP prog 105 [p.v L,.v (.string b)] λr=>∃q:PS,r=q.v L/\Ch L p 0 q 100 0 0:=EP.mono (n105 e f b) λv ⟨q,a,c,d⟩=>⟨q,a,Ch.one c d⟩
theorem rO (e:eY L) (p:PS) (f:p.i<L.length) (b:aU):EP prog 107 [p.v L,.v (.string b)] λr=>∃q:PS,r=q.v L/\Ch L p 0 q 100 0 0:=EP.mono (n107 e f b) λv ⟨q,a,c,d⟩=>⟨q,a,Ch.one c d⟩
theorem ub (b a a1 a2 a3 a4:Int) (a5:aU) (text:Tx) (K:List Nd) (d:K.length<200000000) (c:-9223372036854775808<=a):CL prog 71 [U b,.ag [U a1,I a2,I a3,I a4,.v (.string a5)],.v (.string text.1),I a,.sl false (K.map bG)] fl k' l' s=k' (.sl false (((Nd.mk b a2 a3 K.length a text c)::K).map bG)) l' s:=CP.q (Wk b a a1 a2 a3 a4 a5 text K O c)
theorem EO (b a a1 a2 a3 a4:Int) (a5:aU) (text:Tx) (c:-9223372036854775808<=a):CL prog 71 [U b,.ag [U a1,I a2,I a3,I a4,.v (.string a5)],.v (.string text.1),I a,.sl false []] fl k' l' s=k' (.sl false ([(Nd.mk b a2 a3 0 a text c)].map bG)) l' s:=CP.q (Wk b a a1 a2 a3 a4 a5 text [] Z c)
theorem uf (b a a1 a2 a3 a4:Int) (a5:aU) (c:-9223372036854775808<=a):CL prog 71 [U b,.ag [U a1,I a2,I a3,I a4,.v (.string a5)],.v (.string ⟨#[]⟩),I a,.sl false []] fl k' l' s=k' (.sl false ([(Nd.mk b a2 a3 0 a dm c)].map bG)) l' s:=EO b a a1 a2 a3 a4 a5 dm c
theorem n108 (f:eY L):∀(n:Nat) (p:PS),mz L p<n->p.i<L.length->EP prog 108 [p.v L] (NR L 4 1 p):=by
 intro n;induction n with
 | zero=>intro p h;omega
 | succ n A=>
  intro p F a;refine EP.o SU λs Q x=>?_;simp [UI,lZ a];have d:=λN q g l=>x _ ⟨N,q,rfl,g,l⟩;have C:vt (X:=PX prog s Q) (.p false 0 0) (.p false 1 0) (.p false 2 0) [.row (ce (p.v L)) 0,.row z131 0,.row (df (tk L p.i)) 0] s:=by
   simp [vt,jv a];apply ST.mk<;>intro h;have ⟨m,_,_⟩:=eU h;simp;apply CP.o (oC f p a _);rintro _ ⟨q,rfl,a1⟩;simp;refine CP.o (A q (Zo (a1.mz a m O)) a1.cS.lt) ?_;rintro _ ⟨N,r,rfl,_,a3⟩;simp [ub _ _ _ _ _ _ _ dm N (a3.gQ f O)];apply CP.o (rO f r a3.cS.lt _);rintro _ ⟨w,rfl,a4⟩;simp;first|exact d ((Nd.mk _ _ _ _ _ _ (by first|exact Tok.fH _|omega))::N) w Z (((((a1.nb m).trans a3).trans a4).node.to Z O O O))|exact d ((Nd.mk _ _ _ _ _ dm (by first|exact Tok.fH _|omega))::N) w Z (((((a1.nb m).trans a3).trans a4).node.to Z O O O))
   simp;apply CP.o (vN f p a 2 O);rintro _ ⟨t,q,rfl,a1⟩;simp [EO];first|exact d [(Nd.mk _ _ _ _ _ _ (by first|exact Tok.fH _|omega))] q Z (a1.node.to Z O O O)|exact d [(Nd.mk _ _ _ _ _ dm (by first|exact Tok.fH _|omega))] q Z (a1.node.to Z O O O)
  generalize o: [[S [105,110,116]],_,_,_]=i;have E:i.length=4:=by rw [<-o];rfl
  have z:∀e∈i,∃b,e=[.v (.string b)]:=by rw [<-o];simp
  clear o;refine LP.ind (λj:Nat=>4-j) (λj=>True) (λj=>[.p false 0 0,.p false 1 0,.p false 2 0,.sl true i,I 4,I j]) (λ_=>[.row (ce (p.v L)) 0,.row z131 0,.row (df (tk L p.i)) 0]) (λ_=>s) 3 (λ_ _=>⟨rfl,rfl,rfl⟩) (λj D k y=>?_) 0 trivial;simp [uL];apply ST.dc<;>intro h;obtain ⟨_,g,c,rfl⟩:=Fw z (j:=j) O;have v:=y (j+1) _ [.row (ce (p.v L)) 0,.row z131 0,.row (df (tk L p.i)) 0] _ rfl rfl rfl trivial O;simp at v;simp [g,jv a];apply ST.mk<;>intro l;simp [g,uf];apply CP.o (fC f p a c);rintro _ ⟨q,rfl,a1,_⟩;simp;first|exact d [(Nd.mk _ _ _ _ _ _ (by first|exact Tok.fH _|omega))] q Z (a1.node.to Z O O O)|exact d [(Nd.mk _ _ _ _ _ dm (by first|exact Tok.fH _|omega))] q Z (a1.node.to Z O O O)
  simp [wn (j:=j) O,v];simpa using C
theorem Ho (a:eY L) (p:PS) (b:p.i<L.length):EP prog 108 [p.v L] (NR L 4 1 p):=n108 a _ p (yF _) b
theorem PY (a:eY L) (p:PS) (d:p.i<L.length) (e:Int):EP prog 106 [p.v L,U e] (NR L 5 2 p):=by refine EP.o SX λs Q b=>?_;simp [UK];apply CP.o (vN a p d 1 O);rintro _ ⟨t,q,rfl,a1⟩;simp;apply CP.o (fC a q a1.cS.lt _);rintro _ ⟨r,rfl,a3,_⟩;simp;apply CP.o (Ho a r a3.cS.lt);rintro _ ⟨N,c,rfl,_,a6⟩;simp [ub _ _ _ _ _ _ _ _ N (a6.gQ a O)];first|exact b _ ⟨(Nd.mk _ _ _ _ _ _ (by first|exact Tok.fH _|omega))::N,c,rfl,Z,(((a1.trans a3).trans a6).node.to Z O O O)⟩|exact b _ ⟨(Nd.mk _ _ _ _ _ dm (by first|exact Tok.fH _|omega))::N,c,rfl,Z,(((a1.trans a3).trans a6).node.to Z O O O)⟩
end
theorem Gn {P:aB} {c:Array aP} {a:Array Bool} {b:IntKind}:CF P .min c t a [.v (.int n i),.v (.int b j)]=some (.v (.int n (min i j))):=by
 have e:aj P (builtin .min c t a #[.int n i,.int b j])=some (.value (.int n (min i j))):=by
  have:(if j<i then j else i)=min i j:=by rw [Int.min_def];split <;> split <;> omega
  simp [builtin,Builtin.min_,Builtin.min2,ay,this]
 simp [CF,Cq,iF,qF,e,vO,bq,ak,iU,c1]
theorem Gp {P:aB} {c:Array aP} {a:Array Bool} {b:IntKind}:CF P .max c t a [.v (.int n i),.v (.int b j)]=some (.v (.int n (max i j))):=by
 have e:aj P (builtin .max c t a #[.int n i,.int b j])=some (.value (.int n (max i j))):=by
  have:(if i<j then j else i)=max i j:=by rw [Int.max_def];split <;> split <;> omega
  simp [builtin,Builtin.max_,Builtin.max2,ay,this]
 simp [CF,Cq,iF,qF,e,vO,bq,ak,iU,c1]
attribute [simp] Gn Gp
section
variable {L:List Tok} {D E r:PS} {n m:Nat} {h J f g' e' f':Int}
theorem Ch.tA (a:Ch L D n E h J f) (b:E.c=0):Ch L D n E h (-h) (-100):=⟨a.cS,a.ok,by have:=a.ok b;omega,λc=>absurd b (a.cS.bad c).1⟩
theorem th (h:ue L D E):mz L E<=mz L D:=by
 have:=h.le;have:=h.lt;unfold mz;by_cases b:E.c=0;have a:D.c=0:=by by_cases a:D.c=0;exact a;exact absurd b (h.bad a).1
 rw [zP b,zP a];omega;rw [zO b];omega
def GE (L:List Tok) (n:Nat):Prop:=∀E:PS,mz L E<n->E.i<L.length->EP prog 192 [E.v L,I 1] (NR L 4 1 E)
theorem n241 (c:eY L) (w:GE L n) (D:PS) (C:D.i<L.length) (A:mz L D<n):EP prog 241 [D.v L] λr=>∃(N:List Nd) (E:PS),r= .tu [.sl false (N.map bG),E.v L]/\Ch L D N.length E 100 4 1:=by
 refine EP.o QY λs Q y=>?_;simp [Tj];apply CP.o (oC c D C _);rintro _ ⟨H,rfl,a0⟩;simp;refine LP.ind (λx:List Nd×PS×Int=>mz L x.2.1) (λx=>Ch L D x.1.length x.2.1 100 4 1) (λx=>[.p false 0 0,.p false 1 0,.sl true (x.1.map bG),I x.2.2]) (λx=>[.row (ce (x.2.1.v L)) 0,.row z131 0]) (λ_=>s) 2 (λ_ _=>⟨rfl,rfl,rfl⟩) (λx b k z=>?_) ([],H,0) (a0.iH O O O);have ⟨N,E,j⟩:=x;simp only at b;have d:=b.cS.lt;have i:ve (X:=PX prog s Q) (.p false 0 0) (.p false 1 0) (.sl true (N.map bG)) [.row (ce (E.v L)) 0,.row z131 0] s:=by simp [ve];apply CP.o (rO c E d _);rintro _ ⟨r,rfl,a1⟩;simp;exact y _ ⟨N,r,rfl,(b.trans a1).to Z O O O⟩
 simp [uh];apply ST.dc<;>intro h;simp [zL h,jv d];apply ST.mk<;>intro f;simpa [zL h,f] using i;have F:=b.tA h;have g:∀a:PS,Ch L E 0 a 0 0 0->CL prog 192 [a.v L,I 1] s.length (λp=>ex (X:=PX prog s Q) 0 p λJ=>ex 1 (ct 0 p) λK=>al z131 0 λq=>st 6 q K λ_=>lg 6 q λP=>st 6 (.p false 0 0) P λ_=>ap false 6 56 0 (.sl true (N.map bG)) J λR=>bo .add 3 (I j) (I 1) λb6=>k [.p false 0 0,.p false 1 0,R,b6]) [.row (ce (a.v L)) 0,.row z131 0] s:=by intro a e;apply CP.o (w a (wK (th e.cS) (wK (th b.cS) A)) e.cS.lt);rintro _ ⟨M,r,rfl,_,a2⟩;have b1:=b.gQ c O;have b2:=a2.gQ c O;have m:=λt l s=>eu (fl:=t) (l:=l) (s:=s) (o:=false) N M O;simp at m;simp [m];refine z (N++M,r,i64.wrap (j+1)) _ _ _ ?_ ?_ rfl ?_ ?_;simp;simp;exact (((F.trans e).trans a2).to Z O O O);exact (e.trans a2).mz d h O
 simp;apply ST.dc<;>intro v;simp;apply CP.o (fC c E d _);rintro _ ⟨a,rfl,a1,_⟩;simp;exact g a (a1.iH O O O);simp;exact g E (Ch.refl d);simpa [zB h] using i
end
section
variable {L:List Tok} {fl:Nat} {k':dL} {l' s:ae} {D E:PS}
theorem QI {b:aU} (h:(tk L a).kind=8):tw L a i b=false:=by simp [tw,h]
theorem Ch.fail (b:D.i<L.length) (h:E.i=D.i) (a:E.c≠0):Ch L D 0 E 100 0 0:=⟨⟨O,O,λ_=>⟨a,h⟩⟩,λh=>absurd h a,O,λ_=>O⟩
theorem pO (K M:List Nd) (h:K.length+M.length<=1000000000):CL prog 110 [.sl false (K.map bG),.sl false (M.map bG)] fl k' l' s=k' (.sl false ((K++M).map bG)) l' s:=CP.q (n110 K M h)
theorem AT (b a a1 a2 a3 a4:Int) (a5:aU) (text:Tx) (K M:List Nd) (d:K.length<200000000) (e:M.length<200000000) (c:-9223372036854775808<=a):CL prog 71 [U b,.ag [U a1,I a2,I a3,I a4,.v (.string a5)],.v (.string text.1),I a,.sl false (K.map bG++M.map bG)] fl k' l' s=k' (.sl false (((Nd.mk b a2 a3 (K++M).length a text c)::(K++M)).map bG)) l' s:=by rw [<-List.map_append];exact CP.q (Wk b a a1 a2 a3 a4 a5 text (K++M) W c)
theorem a0x (e a a1 a2 a3 a4:Int) (a5:aU) (text:Tx) (b c b3 b4 b5:Int) (d:Tx) (g:-9223372036854775808<=a) (f:-9223372036854775808<=b5):CL prog 71 [U e,.ag [U a1,I a2,I a3,I a4,.v (.string a5)],.v (.string text.1),I a,.sl false [[U b,I c,I b3,I b4,I b5,.v (.string d.1)]]] fl k' l' s=k' (.sl false ([(Nd.mk e a2 a3 1 a text g),Nd.mk b c b3 b4 b5 d f].map bG)) l' s:=CP.q (Wk e a a1 a2 a3 a4 a5 text [Nd.mk b c b3 b4 b5 d f] Z g)
theorem WQ (e a a1 a2 a3 a4:Int) (a5:aU) (b c b3 b4 b5:Int) (d:Tx) (g:-9223372036854775808<=a) (f:-9223372036854775808<=b5):CL prog 71 [U e,.ag [U a1,I a2,I a3,I a4,.v (.string a5)],.v (.string ⟨#[]⟩),I a,.sl false [[U b,I c,I b3,I b4,I b5,.v (.string d.1)]]] fl k' l' s=k' (.sl false ([(Nd.mk e a2 a3 1 a dm g),Nd.mk b c b3 b4 b5 d f].map bG)) l' s:=a0x e a a1 a2 a3 a4 a5 dm b c b3 b4 b5 d g f
theorem n234 (b:eY L) (D:PS) (n:GE L (mz L D)) (a:D.i<L.length):EP prog 234 [D.v L] (NR L 4 1 D):=by
 refine EP.o R1 λs Q c=>?_;simp [Tl,lZ a];have J:=b.gQ;apply ST.dc<;>intro h;rotate_left;simp;exact c _ ⟨[(Nd.mk 25 0 0 0 0 dm)],D,rfl,Z,ue.refl a,λf=>absurd f h,Z,Z⟩;have q:i64.wrap ((D.i:Int)+1)=(D.i:Int)+1:=wn O;have v:i64.wrap ((L.length:Int)-1)=(L.length:Int)-1:=bW O O;by_cases i:(tk L D.i).kind=8;simp [i,QI i,jv a,q,v];apply CP.o (rK a 5 O);rintro _ ⟨E,rfl,a1,a2⟩;simp;exact c _ ⟨[(Nd.mk 25 0 0 0 0 dm)],E,rfl,Z,(Ch.fail a a1 a2).node.to Z O O O⟩;have K:=b.last _ _ (sE a) i;obtain ⟨d,P⟩:∃d,d=D.i+1:=⟨_,rfl⟩;have H:min ((D.i:Int)+1) ((L.length:Int)-1)=(d:Int):=O;have e:d<L.length:=O;have c1:Ch L D 0 ⟨d,D.d,D.c,D.l,D.k⟩ 100 (-100) (-100):=⟨⟨W,e,λf=>absurd h f⟩,λ_=>W,W,λf=>absurd h f⟩;have F:=c1.mz a h O;have gz:=λnd=>c _ ⟨[nd],⟨d,D.d,D.c,D.l,D.k⟩,rfl,Z,c1.node.to Z O O O⟩;simp [q,v,H];apply ST.dc<;>intro z;simp [uf];first|exact gz (Nd.mk _ _ _ _ _ _ (by first|exact Tok.fH _|omega))|exact gz (Nd.mk _ _ _ _ _ dm (by first|exact Tok.fH _|omega))
 simp;apply ST.dc<;>intro A;simp [uf];first|exact gz (Nd.mk _ _ _ _ _ _ (by first|exact Tok.fH _|omega))|exact gz (Nd.mk _ _ _ _ _ dm (by first|exact Tok.fH _|omega))
 simp;apply ST.dc<;>intro C;simp [EO];first|exact gz (Nd.mk _ _ _ _ _ _ (by first|exact Tok.fH _|omega))|exact gz (Nd.mk _ _ _ _ _ dm (by first|exact Tok.fH _|omega))
 simp [jv a];apply ST.mk<;>intro g;simp [uf];first|exact gz (Nd.mk _ _ _ _ _ _ (by first|exact Tok.fH _|omega))|exact gz (Nd.mk _ _ _ _ _ dm (by first|exact Tok.fH _|omega))
 simp [jv a];apply ST.mk<;>intro g;simp [uf];first|exact gz (Nd.mk _ _ _ _ _ _ (by first|exact Tok.fH _|omega))|exact gz (Nd.mk _ _ _ _ _ dm (by first|exact Tok.fH _|omega))
 simp [jv a];apply ST.mk<;>intro g;simp [uf];first|exact gz (Nd.mk _ _ _ _ _ _ (by first|exact Tok.fH _|omega))|exact gz (Nd.mk _ _ _ _ _ dm (by first|exact Tok.fH _|omega))
 simp;apply ST.dc<;>intro k
 ·simp [zL k,jv e];apply ST.mk<;>intro m;rotate_left;simp [EO];first|exact gz (Nd.mk _ _ _ _ _ _ (by first|exact Tok.fH _|omega))|exact gz (Nd.mk _ _ _ _ _ dm (by first|exact Tok.fH _|omega))
  simp [zL k];apply CP.o (n241 b n ⟨d,D.d,D.c,D.l,D.k⟩ e F);rintro _ ⟨N,E,rfl,a1⟩;simp [ub _ _ _ _ _ _ _ _ N (a1.gQ b O)];first|exact c _ ⟨(Nd.mk _ _ _ _ _ _ (by first|exact Tok.fH _|omega))::N,E,rfl,Z,(c1.trans a1).node.to Z O O O⟩|exact c _ ⟨(Nd.mk _ _ _ _ _ dm (by first|exact Tok.fH _|omega))::N,E,rfl,Z,(c1.trans a1).node.to Z O O O⟩
 simp [zB k,jv a];apply ST.mk<;>intro m;simp;apply CP.o (oC b D a _);rintro _ ⟨E,rfl,a1⟩;simp;apply CP.o (n E (a1.mz a h O) a1.cS.lt);rintro _ ⟨N,r,rfl,p,a2⟩;simp;apply CP.o (rO b r a2.cS.lt _);rintro _ ⟨j,rfl,a3⟩;simp;exact c _ ⟨N,j,rfl,p,(((a1.nb h).trans a2).trans a3).to Z O O O⟩;simp [jv a];apply ST.mk<;>intro l;simp [l,jv e];apply ST.mk<;>intro i;simp;apply CP.o (Ho b ⟨d,D.d,D.c,D.l,D.k⟩ e);rintro _ ⟨N,E,rfl,p,a1⟩;simp;apply CP.o (oC b E a1.cS.lt _);rintro _ ⟨r,rfl,a2⟩;simp;have o:=(c1.trans a1).trans a2;apply CP.o (n r (o.mz a h O) a2.cS.lt);rintro _ ⟨M,j,rfl,R,a3⟩;have x:=a1.gQ b O;have y:=a3.gQ b O;simp [pO N M O,AT _ _ _ _ _ _ _ dm N M x y];apply CP.o (rO b j a3.cS.lt _);rintro _ ⟨w,rfl,a4⟩;simp;exact c _ ⟨(Nd.mk 32 (tk L D.i).line (tk L D.i).nH (N++M).length 0 dm)::(N++M),w,Z,Z,((o.trans a3).trans a4).node.to Z O O O⟩;simp [l,jv a];apply CP.o (vN b ⟨d,D.d,D.c,D.l,D.k⟩ e 2 O);rintro _ ⟨t,E,rfl,a1⟩;simp [EO,WQ];apply CP.o (oC b E a1.cS.lt _);rintro _ ⟨r,rfl,a2⟩;simp;apply CP.o (rO b r a2.cS.lt _);rintro _ ⟨j,rfl,a3⟩;simp;exact c _ ⟨[(Nd.mk _ _ _ _ _ dm (by first|exact Tok.fH _|omega)),(Nd.mk _ _ _ _ _ t.text (by first|exact Tok.fH _|omega))],j,rfl,Z,(((c1.trans a1).trans a2).trans a3).node.node.to Z O O O⟩;simp [l,jv a];apply CP.o (rK a 5 O);rintro _ ⟨E,rfl,a1,a2⟩;simp;exact c _ ⟨[(Nd.mk 25 0 0 0 0 dm)],E,rfl,Z,(Ch.fail a a1 a2).node.to Z O O O⟩
end
section
variable {L:List Tok} {fl n m:Nat} {J:dL} {E D:ae} {p h r:PS} {g e f:Int}
theorem Ch.cg (a:Ch L p n h g e f) (b:r.i=h.i) (c:r.c=h.c):Ch L p n r g e f:=⟨⟨by rw [b];exact a.cS.le,by rw [b];exact a.cS.lt,by rw [b,c];exact a.cS.bad⟩,by rw [b,c];exact a.ok,by rw [b];exact a.sz,a.bad⟩
theorem GE.le (a:GE L n) (b:m<=n):GE L m:=λh c=>a h O
theorem n226 (i:eY L) (p:PS) (q:GE L (mz L p)) (K:p.i<L.length):EP prog 226 [p.v L] (NR L 4 1 p):=by
 refine EP.o R8 λD Q H=>?_;simp [Tr];apply CP.o (n234 i p q K);rintro _ ⟨N0,R,rfl,P,a0⟩;simp;refine LP.ind (λx:List Nd×PS=>mz L x.2) (λx=>1<=x.1.length/\Ch L p x.1.length x.2 4 4 1) (λx=>[.p false 0 0,.p false 1 0,.sl false (x.1.map bG)]) (λx=>[.row (ce (x.2.v L)) 0,.row z131 0]) (λ_=>D) 2 (λ_ _=>⟨rfl,rfl,rfl⟩) (λx d k J=>?_) (N0,R) ⟨P,a0⟩;have ⟨N,h⟩:=x;have ⟨w,d⟩:=d;simp only at d w;have a:=d.cS.lt;have o:=d.gQ i O;have s:∀(nd:Nd) (M:List Nd) (b:PS),h.c=0->Ch L p (nd::M).length b 4 4 1->(∃n g e f,Ch L h n b g e f/\0<g)->∀m E,m=[.p false 0 0,.p false 1 0,.sl false ((nd::M).map bG)]->E.take 2=[.row (ce (b.v L)) 0,.row z131 0]->k m E D:=λnd M b l j ⟨_,_,_,_,z,A⟩ m E C F=>J (nd::M,b) m E D C F rfl ⟨Z,j⟩ (z.mz a l A);have X:(tw L h.i h.c ⟨#[91]⟩=false/\tw L h.i h.c ⟨#[46]⟩=false)\/tw L h.i h.c ⟨#[91]⟩\/(tw L h.i h.c ⟨#[91]⟩=false/\tw L h.i h.c ⟨#[46]⟩):=by cases tw L h.i h.c ⟨#[91]⟩ <;> cases tw L h.i h.c ⟨#[46]⟩ <;> simp
 rcases X with ⟨c,j⟩|c|⟨c,j⟩;simp [nM,jv a,c,j,D9];exact H _ ⟨N,h,rfl,w,d⟩;all_goals
  have l:h.c=0:=by first|exact (eU c).1|exact (eU j).1
  have r:=d.tA l;first|simp [nM,jv a,lZ a,c,j]|simp [nM,jv a,lZ a,c]
  apply ST.mk<;>intro c;simp;apply CP.o (oC i h a _);rintro _ ⟨b,rfl,a1⟩;simp;apply CP.o (q b (xN (a1.mz a l O) (th d.cS)) a1.cS.lt);rintro _ ⟨M,v,rfl,o2,a2⟩;simp;apply CP.o (rO i v a2.cS.lt _);rintro _ ⟨b6,rfl,a3⟩;have y:=a2.gQ i O;simp [pO N M O,AT _ _ _ _ _ _ _ dm N M o y];refine s (Nd.mk 28 (tk L h.i).line (tk L h.i).nH (N++M).length 0 dm) (N++M) b6 l ((((r.trans a1).trans a2).trans a3).node.to Z O O O) ⟨_,_,_,_,(a1.trans a2).trans a3,O⟩ _ _ Z Z;simp;apply CP.o (fC i h a _);rintro _ ⟨b,rfl,a1,_⟩;simp;apply CP.o (vN i b a1.cS.lt 1 O);rintro _ ⟨t,v,rfl,a2⟩;simp [ub _ _ _ _ _ _ _ _ N o];refine s (Nd.mk 29 (tk L h.i).line (tk L h.i).nH N.length 0 t.text) N v l (((r.trans a1).trans a2).node.to Z O O O) ⟨_,_,_,_,a1.trans a2,O⟩ _ _ Z Z
theorem n218 (c:eY L):∀(n:Nat) (p:PS),mz L p<n->GE L (mz L p)->p.i<L.length->EP prog 218 [p.v L] (NR L 4 1 p):=by
 intro n;induction n with
 | zero=>intro p h;omega
 | succ n m=>
  intro p q g a;refine EP.o Rd λD Q i=>?_;simp [Tv,lZ a,jv a];apply ST.mk<;>intro h;have ⟨d,_,_⟩:=eU h;simp [h];apply CP.o (oC c p a _);rintro _ ⟨k,rfl,a1⟩;have o:=a1.mz a d O;simp;apply CP.o (m k O (g.le O) a1.cS.lt);rintro _ ⟨N,v,rfl,j,a2⟩;have e:=a2.gQ c O;have b:=λ(nd:Nd)=>i _ ⟨nd::N,⟨v.i,i64.wrap (v.d-1),v.c,v.l,v.k⟩,rfl,Z,(((a1.nb d).trans a2).node.cg (r:=⟨v.i,i64.wrap (v.d-1),v.c,v.l,v.k⟩) rfl rfl).to Z O O O⟩;simp;refine ST.mk (λf=>?_) λf=>?_ <;> simp [ub _ _ _ _ _ _ _ dm N e] <;> first|exact b (Nd.mk _ _ _ _ _ _ (by first|exact Tok.fH _|omega))|exact b (Nd.mk _ _ _ _ _ dm (by first|exact Tok.fH _|omega))
  simp [h,jv a];apply ST.mk<;>intro l;have ⟨d,_,_⟩:=eU l;simp;apply CP.o (oC c p a _);rintro _ ⟨k,rfl,a1⟩;have o:=a1.mz a d O;simp;apply CP.o (m k O (g.le O) a1.cS.lt);rintro _ ⟨N,v,rfl,j,a2⟩;have e:=a2.gQ c O;have b:=λ(nd:Nd)=>i _ ⟨nd::N,⟨v.i,i64.wrap (v.d-1),v.c,v.l,v.k⟩,rfl,Z,(((a1.nb d).trans a2).node.cg (r:=⟨v.i,i64.wrap (v.d-1),v.c,v.l,v.k⟩) rfl rfl).to Z O O O⟩;simp;refine ST.mk (λf=>?_) λf=>?_ <;> simp [ub _ _ _ _ _ _ _ dm N e] <;> first|exact b (Nd.mk _ _ _ _ _ _ (by first|exact Tok.fH _|omega))|exact b (Nd.mk _ _ _ _ _ dm (by first|exact Tok.fH _|omega))
  simp;apply CP.o (n226 c p g a);rintro _ ⟨N,v,rfl,j,a2⟩;simp;exact i _ ⟨N,v,rfl,j,a2⟩
@[simp] def mA (b:aU):ao:=[.v (.string b)]
@[simp] def bt (x:Int):ao:=[I x]
theorem n219 (c:Int):EP prog 219 [I c] λr=>∃(T:List aU) (b:List Int),r= .tu [.sl false (T.map mA),.sl false (b.map bt)]/\T.length=b.length/\T.length<10/\∀o∈b,-9223372036854775808<=o:=by refine EP.o Rb λD Q a=>?_;simp [Tu];apply ST.dc<;>intro h;simp;exact a _ ⟨[⟨#[124,124]⟩],[15],rfl,rfl,Z,Z⟩;simp;apply ST.dc<;>intro h;simp;exact a _ ⟨[⟨#[38,38]⟩],[14],rfl,rfl,Z,Z⟩;simp;apply ST.dc<;>intro h;simp;exact a _ ⟨[⟨#[61,61]⟩,⟨#[33,61]⟩],[6,7],rfl,rfl,Z,Z⟩;simp;apply ST.dc<;>intro h;simp;exact a _ ⟨[⟨#[60]⟩,⟨#[60,61]⟩,⟨#[62]⟩,⟨#[62,61]⟩],[8,9,10,11],rfl,rfl,Z,Z⟩;simp;apply ST.dc<;>intro h;simp;exact a _ ⟨[⟨#[43]⟩,⟨#[45]⟩],[1,2],rfl,rfl,Z,Z⟩;simp;exact a _ ⟨[⟨#[42]⟩,⟨#[47]⟩,⟨#[37]⟩],[3,4,5],rfl,rfl,Z,Z⟩
end
section
variable {L:List Tok} {fl n m:Nat} {J:dL} {E D:ae} {h q r:PS} {g e f:Int}
def GA (L:List Tok) (n:Nat):Prop:=∀(q:PS) (a:Nat),mz L q<n->q.i<L.length->1<=a->a<=7->EP prog 192 [q.v L,I a] (NR L 4 1 q)
theorem GA.ge (h:GA L n):GE L n:=λq a b=>h q 1 a b O O
theorem getD_some {a:Type} {T:List a} {j:Nat} (h:j<T.length) (d:a):T[j]? =some (T.getD j d):=by rw [zA h,zG,zA h];rfl
theorem n192 (o:eY L) (h:PS) (z:GA L (mz L h)) (hp:h.i<L.length):∀(d a:Nat),a+d=7->1<=a->EP prog 192 [h.v L,I a] (NR L 4 1 h):=by
 intro d;induction d with
 | zero=>intro a X h2;refine EP.o LU λD Q s=>?_;have:a=7:=O;subst this;simp [MJ];apply CP.o (n218 o _ h (yF _) z.ge hp);rintro _ ⟨N,q,rfl,m,a1⟩;simp;exact s _ ⟨N,q,rfl,m,a1⟩
 | succ d ih=>
  intro a X h2;have c2:=ih (a+1) O O;refine EP.o LU λD Q s=>?_;have H:=wn (j:=a) O;simp [MJ,show ¬(6<(a:Int)) by omega,H];apply CP.o c2;rintro _ ⟨N0,q0,rfl,o0,a0⟩;simp;apply CP.o (n219 a);rintro _ ⟨T,e,rfl,t1,t2,t3⟩;simp;refine LP.ind (λx:List Nd×PS×Bool=>2*mz L x.2.1+(if x.2.2=true then 1 else 0)) (λx=>1<=x.1.length/\Ch L h x.1.length x.2.1 4 4 1) (λx=>[I a,.p false 0 0,.p false 1 0,.sl false (x.1.map bG),.sl false (T.map mA),.sl false (e.map bt),B x.2.2]) (λx=>[.row (ce (x.2.1.v L)) 0,.row z131 0]) (λ_=>D) 2 (λ_ _=>⟨rfl,rfl,rfl⟩) (λx l c4 hk=>?_) (N0,q0,true) ⟨o0,a0⟩;have ⟨N,q,f⟩:=x;obtain ⟨m,l⟩:=l;simp only at l m;have w:=λN q c5 k=>s _ ⟨N,q,rfl,c5,k⟩;cases f with
  | false=>simp [qP,Df];exact w N q m l
  | true=>
  simp [qP];refine LP.ind (λx:List Nd×PS×Bool×Nat=>T.length-x.2.2.2) (λx=>1<=x.1.length/\Ch L h x.1.length x.2.1 4 4 1/\(if x.2.2.1=true then mz L x.2.1<mz L q else x.2.1=q)) (λx=>[I a,.p false 0 0,.p false 1 0,.sl false (x.1.map bG),.sl false (T.map mA),.sl false (e.map bt),B x.2.2.1,I T.length,I x.2.2.2]) (λx=>[.row (ce (x.2.1.v L)) 0,.row z131 0]) (λ_=>D) 2 (λ_ _=>⟨rfl,rfl,rfl⟩) (λx c3 k2 C=>?_) (N,q,false,0) ⟨m,l,Z⟩;have ⟨M,c,f,j⟩:=x;have ⟨r,b,i⟩:=c3;simp only at b r i;have p:=b.cS.lt;simp [ur];apply ST.dc<;>intro k;have t:=wn (j:=j) O;have v:=getD_some k ⟨#[]⟩;have P:=getD_some (T:=e) (j:=j) O 0;have skip:=C (M,c,f,j+1) _ [.row (ce (c.v L)) 0,.row z131 0] _ rfl rfl rfl ⟨r,b,i⟩ W;generalize T.getD j ⟨#[]⟩=tt at*;have b6:-9223372036854775808<=e.getD j 0:=by
   rw [zG];cases k:e[j]? with
   | none=>simp
   | some x=>exact t3 x (zI k)
  generalize e.getD j 0=oo at*;simp at skip;cases f with
  | true=>simp [t];exact skip
  | false=>simp at i;subst i;simp [v,jv p];apply ST.mk<;>intro g;have ⟨A,_,_⟩:=eU g;simp [lZ p,v,H];apply CP.o (fC o c p _);rintro _ ⟨c6,rfl,a1,_⟩;simp;have E:=a1.mz p A O;apply CP.o (z c6 (a+1) (xN E (th b.cS)) a1.cS.lt O O);rintro _ ⟨n,c7,rfl,o3,a2⟩;have J:=b.gQ o O;have K:=a2.gQ o O;simp [pO M n O,P,AT _ _ _ _ _ _ _ dm M n J K,t,b6];refine C (Nd.mk 31 (tk L c.i).line (tk L c.i).nH (M++n).length oo dm::(M++n),c7,true,j+1) _ _ _ Z Z rfl ⟨Z,(((b.tA A).trans a1).trans a2).node.to Z O O O,?_⟩ W;simp;exact wK (th a2.cS) E;simp [t];exact skip
  simp [De];have F:=w M c r b;have R:c4 [I a,.p false 0 0,.p false 1 0,.sl false (M.map bG),.sl false (T.map mA),.sl false (e.map bt),B f] [.row (ce (c.v L)) 0,.row z131 0] D:=by
   apply hk (M,c,f) _ _ _ rfl rfl rfl ⟨r,b⟩;cases f with
   | true=>simp at i;simp;omega
   | false=>simp at i;subst i;simp
  apply ST.dc<;>intro g;try simp [zL g]
  exact F;simp [zB g];apply ST.dc<;>intro y;try simp
  exact F;try simp [zB y,zB g]
  exact R
theorem a18 (d:eY L):∀n,GA L n:=by
 intro n;induction n with
 | zero=>intro q a h;omega
 | succ n e=>intro q a i b c j;exact n192 d q (λg f h=>e g f O) b (7-a) a O c
theorem vM (a:eY L) (h:PS) (b:h.i<L.length):EP prog 192 [h.v L,I 1] (NR L 4 1 h):=a18 a _ h 1 (yF _) b O O
end
theorem Zz (a b:Int) (m:-9223372036854775808<=a):∃(n:Int) (i:Bool),(i=true->-9223372036854775808<=n)/\EP prog 206 [I a,I b] (· = .tu [I n,B i]):=by
 by_cases f:b=0;refine ⟨0,false,Z,EP.o HC λs Q c=>?_⟩;simp [HS,f];exact c _ rfl;by_cases g:b= -1;refine ⟨0,true,Z,EP.o HC λs Q c=>?_⟩;subst g;simp [HS];exact c _ Z;refine ⟨a.tmod b,true,λ_=>?_,EP.o HC λs Q c=>?_⟩;rcases Int.le_total 0 a with h|h;have:=Int.tmod_nonneg b h;omega;have j:a.tmod b= -((-a).tmod b):=by rw [Int.neg_tmod];omega
 have k:(-a).tmod b<= -a:=by
  have e:=Int.tmod_add_mul_tdiv (-a) b;have l:0<=b*(-a).tdiv b:=by rcases Int.le_total 0 b with d|d;exact Int.mul_nonneg d (Int.tdiv_nonneg O d);exact Int.mul_nonneg_of_nonpos_of_nonpos d (Int.tdiv_nonpos_of_nonneg_of_nonpos O d)
  omega
 omega;simp [HS,f,g,rj f];exact c _ rfl
theorem uY {P:aB} {t:aP} {k k':IntKind} {a b:Int} (h:0<=b):cm P .shl t (.v (.int k a)) (.v (.int k' b))=some (.v (.int k (k.wrap (a*2^(min b.toNat k.bits))))):=cy rfl rfl (Mh t k a b k' h)
theorem CH {P:aB} {t:aP} {k k':IntKind} {a b:Int} (h:0<=b):cm P .shr t (.v (.int k a)) (.v (.int k' b))=some (.v (.int k (a.fdiv (2^(min b.toNat k.bits))))):=cy rfl rfl (EZ t k a b k' h)
theorem whi (x:Int):i64.wrap x<9223372036854775808:=by simp only [IntKind.wrap,IntKind.signed,IntKind.bits];simp;split <;> omega
theorem Hj (a:Int):∃n:Int,EP prog 214 [I a] (· =I n)/\-8388608<=n/\n<8388608:=by
 have h:u64.wrap 40=40:=Y;have i:i64.wrap 40=40:=Y;have f:min (Int.toNat 40) i64.bits=40:=Y;have d:=λx:Int=>uY (P:=prog) (t:=2) (k:=.i64) (k':=.u64) (a:=x) (b:=40) O;have e:=λx:Int=>CH (P:=prog) (t:=2) (k:=.i64) (k':=.u64) (a:=x) (b:=40) O;rw [f] at d e;have g:EP prog 222 [I a,I 24] (· = .tu [I ((i64.wrap (a*2^40)).fdiv (2^40)),B true]):=by refine EP.o Ra λs Q c=>?_;simp [Tt,h,i,d,e];exact c _ rfl
 refine ⟨(i64.wrap (a*2^40)).fdiv (2^40),EP.o Rg λs Q c=>?_,?_⟩;simp [TA,CP.q g];exact c _ rfl;have j:=zp (a*2^40);have l:=whi (a*2^40);rw [Int.fdiv_eq_ediv_of_nonneg _ O];omega
abbrev nG (a b:Int):TV:=.ag [I a,I b]
theorem Hl (d c:Int):∃a b:Int,EP prog 180 [I d,I c] (· =nG a b)/\(-8388608<=a/\a<8388608)/\-8388608<=b/\b<8388608:=by have ⟨a,e,f⟩:=Hj d;have ⟨b,g,h⟩:=Hj c;refine ⟨a,b,EP.o RJ λs Q i=>?_,f,h⟩;simp [U1,CP.q e,CP.q g];exact i _ rfl
theorem Hn (n:Int) (h:-9223372036854775808<=n):EP prog 165 [I n] (· = .ag (aw (lu n h))):=by refine EP.o S4 λs Q a=>?_;simp [U9];exact a _ rfl
theorem KV (a b:Int):EP prog 167 [nG a b] (· = .ag (aw (pV a b))):=by refine EP.o RY λs Q c=>?_;simp [U7];exact c _ rfl
theorem Az (v:Vl):∃a b:Int,EP prog 169 [.ag (aw v)] (· =nG a b)/\(-8388608<=a/\a<8388608)/\-8388608<=b/\b<8388608:=by have ⟨a,b,h,c⟩:=Hl v.re v.im;refine ⟨a,b,EP.o RV λs Q d=>?_,c⟩;simp [U5,CP.q h];exact d _ rfl
theorem Hm (b:Bool):EP prog 170 [B b] (· = .ag (aw (jB b))):=by refine EP.o RU λs Q a=>?_;cases b <;> simp [U4] <;> exact a _ (by simp [jB])
theorem PI (v:Vl):∃b:Bool,EP prog 171 [.ag (aw v)] (· =B b):=by by_cases c:v.k=5;refine ⟨true,EP.o HI λs Q a=>?_⟩;simp [HW,zL c];exact a _ rfl;by_cases d:v.k=6;refine ⟨true,EP.o HI λs Q a=>?_⟩;simp [HW,zB c,zL d];exact a _ rfl;refine ⟨decide (v.k=7),EP.o HI λs Q a=>?_⟩;simp [HW,zB c,zB d];exact a _ rfl
theorem Ay (e:Int) (b:Bool):∃(w:Vl) (g:Bool),EP prog 172 [I e,B b] (· = .tu [.ag (aw w),B g]):=by by_cases d:e=6;refine ⟨jB b,true,EP.o HH λs Q a=>?_⟩;have c:=Hm b;simp at c;simp [HV,zL d,CP.q c];exact a _ Z;by_cases f:e=7;refine ⟨jB (!b),true,EP.o HH λs Q a=>?_⟩;have c:=Hm (!b);simp at c;simp [HV,zB d,zL f];simp [CP.q c];exact a _ Z;refine ⟨vz,false,EP.o HH λs Q a=>?_⟩;simp [HV,zB d,zB f];exact a _ (by simp [vz])
theorem ZS (k a b:Int) (K:-9223372036854775808<=a):∃(w:Vl) (t:Int) (R:Bool),(t=0\/t=1)/\EP prog 173 [I k,I a,I b] (· = .tu [.ag (aw w),U t,B R]):=by
 have ⟨c,g⟩:=ZE a b;have c1:=ZD a b;have H:=ZC a b;have J:=ZB a b;have ⟨L,N,E,A⟩:=ZA a b;have ⟨M,P,F,C⟩:=Zz a b K;have p:=λx:Bool=>Hm x;have r:=λ(n:Int) (h:-9223372036854775808<=n)=>Hn n h;simp only [aw] at p r;by_cases f:k=1;refine ⟨lu (i64.wrap (a+b)) (zp _),0,true,.inl rfl,EP.o kW λs Q d=>?_⟩;simp [kZ,CP.q g,zL f,CP.q c1];simp [CP.q (r _ (zp _))];exact d _ Z;by_cases i:k=2;refine ⟨lu (i64.wrap (a-b)) (zp _),0,true,.inl rfl,EP.o kW λs Q d=>?_⟩;simp [kZ,CP.q g,zB f,zL i,CP.q H];simp [CP.q (r _ (zp _))];exact d _ Z;by_cases j:k=3;refine ⟨lu (i64.wrap (a*b)) (zp _),0,true,.inl rfl,EP.o kW λs Q d=>?_⟩;simp [kZ,CP.q g,zB f,zB i,zL j,CP.q J];simp [CP.q (r _ (zp _))];exact d _ Z;by_cases l:k=4;cases e:N with
 | true=>refine ⟨lu L (E e),0,true,.inl rfl,EP.o kW λs Q d=>?_⟩;subst e;simp [kZ,CP.q g,zB f,zB i,zB j,zL l,CP.q A];simp [CP.q (r _ (E rfl))];exact d _ Z
 | false=>refine ⟨vz,1,true,.inr rfl,EP.o kW λs Q d=>?_⟩;subst e;simp [kZ,CP.q g,zB f,zB i,zB j,zL l,CP.q A];exact d _ (by simp [vz])
 by_cases m:k=5;cases e:P with
 | true=>refine ⟨lu M (F e),0,true,.inl rfl,EP.o kW λs Q d=>?_⟩;subst e;simp [kZ,CP.q g,zB f,zB i,zB j,zB l,zL m,CP.q C];simp [CP.q (r _ (F rfl))];exact d _ Z
 | false=>refine ⟨vz,1,true,.inr rfl,EP.o kW λs Q d=>?_⟩;subst e;simp [kZ,CP.q g,zB f,zB i,zB j,zB l,zL m,CP.q C];exact d _ (by simp [vz])
 by_cases o:k=8;refine ⟨jB (decide (c<0)),0,true,.inl rfl,EP.o kW λs Q d=>?_⟩;simp [kZ,CP.q g,zB f,zB i,zB j,zB l,zB m,zL o];simp [CP.q (p _)];exact d _ Z;by_cases q:k=9;refine ⟨jB (decide (c<=0)),0,true,.inl rfl,EP.o kW λs Q d=>?_⟩;simp [kZ,CP.q g,zB f,zB i,zB j,zB l,zB m,zB o,zL q];simp [CP.q (p _)];exact d _ Z;by_cases v:k=10;refine ⟨jB (decide (0<c)),0,true,.inl rfl,EP.o kW λs Q d=>?_⟩;simp [kZ,CP.q g,zB f,zB i,zB j,zB l,zB m,zB o,zB q,zL v];simp [CP.q (p _)];exact d _ Z;by_cases y:k=11;refine ⟨jB (decide (0<=c)),0,true,.inl rfl,EP.o kW λs Q d=>?_⟩;simp [kZ,CP.q g,zB f,zB i,zB j,zB l,zB m,zB o,zB q,zB v,zL y];simp [CP.q (p _)];exact d _ Z;by_cases z:k=6;refine ⟨jB (decide (c=0)),0,true,.inl rfl,EP.o kW λs Q d=>?_⟩;simp [kZ,CP.q g,zB f,zB i,zB j,zB l,zB m,zB o,zB q,zB v,zB y,zL z];simp [CP.q (p _)];exact d _ Z;by_cases D:k=7;refine ⟨jB (!decide (c=0)),0,true,.inl rfl,EP.o kW λs Q d=>?_⟩;simp [kZ,CP.q g,zB f,zB i,zB j,zB l,zB m,zB o,zB q,zB v,zB y,zB z,zL D];simp [CP.q (p _)];exact d _ Z;refine ⟨vz,0,false,.inl rfl,EP.o kW λs Q d=>?_⟩;simp [kZ,CP.q g,zB f,zB i,zB j,zB l,zB m,zB o,zB q,zB v,zB y,zB z,zB D];exact d _ (by simp [vz])
structure JI:Prop where
 add:∀re im re' im':Int,∃a b:Int,EP prog 207 [nG re im,nG re' im'] (· =nG a b)
 sub:∀re im re' im':Int,∃a b:Int,EP prog 208 [nG re im,nG re' im'] (· =nG a b)
 mul:∀re im re' im':Int,∃a b:Int,EP prog 209 [nG re im,nG re' im'] (· =nG a b)
 neg:∀re im:Int,∃a b:Int,EP prog 168 [nG re im] (· =nG a b)
 eq:∀(re im re' im':Int),cm prog .eql 270 (nG re im) (nG re' im')=some (B (decide (re=re'/\im=im')))
theorem ZR (l:JI) (j h f i g:Int):∃(w:Vl) (o:Bool),EP prog 174 [I j,nG h f,nG i g] (· = .tu [.ag (aw w),B o]):=by have ⟨a1,q,t⟩:=l.add h f i g;have ⟨a2,r,v⟩:=l.sub h f i g;have ⟨a3,b3,x⟩:=l.mul h f i g;have m:=λa b=>KV a b;simp at m;by_cases k:j=1;refine ⟨pV a1 q,true,EP.o ED λs Q d=>?_⟩;simp [F8,zL k,CP.q t];simp [CP.q (m _ _)];exact d _ Z;by_cases n:j=2;refine ⟨pV a2 r,true,EP.o ED λs Q d=>?_⟩;simp [F8,zB k,zL n,CP.q v];simp [CP.q (m _ _)];exact d _ Z;by_cases p:j=3;refine ⟨pV a3 b3,true,EP.o ED λs Q d=>?_⟩;simp [F8,zB k,zB n,zL p,CP.q x];simp [CP.q (m _ _)];exact d _ Z;have ⟨w,o,c⟩:=Ay j (decide (h=i/\f=g));refine ⟨w,o,EP.o ED λs Q d=>?_⟩;have e:=l.eq h f i g;simp only [aw] at c;simp [F8,zB k,zB n,zB p,e];simp at c;simp [CP.q c];exact d _ Z
theorem a08 (y:JI) (f:Int) (v:Vl):∃(w:Vl) (C:Bool),EP prog 132 [I f,.ag (aw v)] (· = .tu [.ag (aw w),B C]):=by have o:=λ(n:Int) (h:-9223372036854775808<=n)=>Hn n h;have l:=λx:Bool=>Hm x;have m:=λa b=>KV a b;have ⟨p,q,k,_⟩:=Az v;have ⟨a1,r,z⟩:=y.neg p q;simp only [aw] at o l m k;by_cases d:f=12;by_cases g:v.k=1;refine ⟨lu (i64.wrap (0-v.n)) (zp _),true,EP.o AQ λs Q c=>?_⟩;have A:=ZT v.n;simp [w6,zL d,zL g,CP.q A];have:=o (i64.wrap (0-v.n)) (zp _);simp at this ⊢;simp [CP.q this];exact c _ Z;by_cases e4:v.k=4;refine ⟨pV a1 r,true,EP.o AQ λs Q c=>?_⟩;simp [w6,zL d,zB g,zL e4];simp [CP.q k,CP.q z,CP.q (m _ _)];exact c _ Z;refine ⟨vz,false,EP.o AQ λs Q c=>?_⟩;simp [w6,d,zB g,zB e4];exact c _ (by simp [vz]);by_cases i:f=13/\v.k=2;refine ⟨jB (decide (v.n=0)),true,EP.o AQ λs Q c=>?_⟩;simp [w6,zB d,zL i.1,zL i.2];simp [CP.q (l _)];exact c _ Z;refine ⟨vz,false,EP.o AQ λs Q c=>?_⟩;by_cases j:f=13;have t:=λe=>i ⟨j,e⟩;simp [w6,zB d,zL j,zB t];exact c _ (by simp [vz]);simp [w6,zB d,zB j];exact c _ (by simp [vz])
def lj (w:Nat) (n:Int):Prop:=∃(s:Bool) (k:Nat),Ieee.double.read w= .number s (n.natAbs*2^k) (-(k:Int))/\(n<0->s)/\(0<n->s=false)
theorem Ak (s:Bool):Ieee.double.read (Ieee.double.word s 0)= .number s 0 (-((1074:Nat):Int)):=by cases s <;> decide+kernel
theorem Al (s:Bool) (r:Nat) (g:4503599627370496<=r) (d:r<2047*4503599627370496):Ieee.double.read (Ieee.double.word s r)= .number s (4503599627370496+r%4503599627370496) (-1074+(r/4503599627370496-1:Nat)):=by
 have b:Ieee.double.signWeight=9223372036854775808:=by decide+kernel
 have c:Ieee.double.binade=4503599627370496:=by decide+kernel
 have e3:Ieee.double.infRung=2047*4503599627370496:=by decide+kernel
 have e4:Ieee.double.leastPlace= -1074:=by decide+kernel
 unfold Ieee.Format.read Ieee.Format.word;simp only [b,c,e3,e4];have q:∀x,x=(if s=true then 9223372036854775808+r else r)->x%9223372036854775808=r/\((x/9223372036854775808%2==1)=s):=by intro x a;cases s;simp at a;subst a;refine ⟨O,?_⟩;rw [beq_eq_false_iff_ne];omega;simp at a;subst a;refine ⟨O,?_⟩;rw [beq_iff_eq];omega
 have ⟨e,f⟩:=q _ rfl;rw [e,f,zO O,zP d]
theorem M9 (s:Bool) (a d b:Nat) (h:b=a*2^d) (k:d<=b.log2+2):Ieee.Toward.even.cut s b d=a:=by
 unfold Ieee.Toward.cut;have g:min d (b.log2+2)=d:=O;simp only [g,Nat.one_shiftLeft];have i:0<2^d:=Nat.pow_pos O;have e:b/2^d=a:=by rw [h,Nat.mul_div_cancel _ i]
 have f:b%2^d=0:=by rw [h,Nat.mul_mod_left]
 rw [e,f];have j:decide (2^d<2*0)=false:=decide_eq_false O;have c:(2^d==2*0)=false:=by rw [beq_eq_false_iff_ne];omega
 simp [c]
theorem oD (N K:Nat) (h:N≠0):(N*2^K).log2=N.log2+K:=by have b:=Nat.log2_self_le h;have c:N<2^(N.log2+1):=Nat.lt_log2_self;have d:0<2^K:=Nat.pow_pos O;have a:N*2^K≠0:=Nat.mul_ne_zero h O;refine (Nat.log2_eq_iff a).2 ⟨?_,?_⟩;rw [Nat.pow_add];exact zV _ b;rw [show N.log2+K+1=(N.log2+1)+K by omega,Nat.pow_add];exact Nat.mul_lt_mul_of_pos_right c d
theorem tf (s:Bool) (N K:Nat) (h:N<2^53):∃k:Nat,Ieee.double.read (Ieee.double.nearest s (N*2^K) (-(K:Int)))= .number s (N*2^k) (-(k:Int)):=by
 by_cases a:N=0;subst a;obtain ⟨k,i⟩:∃k,k=1074:=⟨_,rfl⟩;refine ⟨k,?_⟩;unfold Ieee.Format.nearest;rw [Nat.zero_mul,Nat.zero_mul,zP rfl,Ak,i];have x:0<2^K:=Nat.pow_pos O;have q:N*2^K≠0:=Nat.mul_ne_zero a O;have f:=Nat.log2_self_le a;have g:N<2^(N.log2+1):=Nat.lt_log2_self;have t:N.log2<=52:=by have:=(Nat.log2_lt a).2 h;omega
 obtain ⟨j,v⟩:∃j,j=52-N.log2:=⟨_,rfl⟩;have c:Ieee.double.binade=4503599627370496:=by decide+kernel
 have e3:Ieee.double.infRung=2047*4503599627370496:=by decide+kernel
 have e4:Ieee.double.leastPlace= -1074:=by decide+kernel
 have e5:(Ieee.double.fractionBits:Int)=52:=rfl;have p:=oD N K a;have o:max (-(K:Int)+((N*2^K).log2:Nat)-(Ieee.double.fractionBits:Nat)) Ieee.double.leastPlace= -(j:Int):=by rw [p,e4,e5];omega
 have n:Ieee.Toward.even.cut s ((N*2^K)<<<(-(K:Int)- -(j:Int)).toNat) (-(j:Int)- -(K:Int)).toNat=N*2^j:=by have d:(-(K:Int)- -(j:Int)).toNat=j-K:=O;have e:(-(j:Int)- -(K:Int)).toNat=K-j:=O;rw [d,e,Nat.shiftLeft_eq];refine M9 s _ _ _ ?_ ?_;rw [Nat.mul_assoc,Nat.mul_assoc,<-Nat.pow_add,<-Nat.pow_add];congr 2;omega;rw [Nat.mul_assoc,<-Nat.pow_add,oD _ _ a];omega
 have l:4503599627370496<=N*2^j:=by have:2^N.log2*2^j<=N*2^j:=zV _ f;rw [<-Nat.pow_add,show N.log2+j=52 by omega] at this;exact this
 have m:N*2^j<2*4503599627370496:=by have:N*2^j<2^(N.log2+1)*2^j:=Nat.mul_lt_mul_of_pos_right g (Nat.pow_pos O);rw [<-Nat.pow_add,show N.log2+1+j=53 by omega] at this;exact this
 unfold Ieee.Format.nearest;rw [zO q];simp only [c,e3];rw [o,n,e4];obtain ⟨M,b⟩:∃M,M=N*2^j:=⟨_,rfl⟩;rw [<-b] at l m ⊢;have r:(-(j:Int)- -1074).toNat=1074-j:=O;rw [r];have w:j<=52:=O;rw [Nat.min_eq_left O];refine ⟨j,?_⟩;rw [Al s _ O O,<-b];congr 1 <;> omega
theorem sg (s:Bool) (n:Int) (k a:Nat) (b:n<0->s) (c:0<n->s=false):Ieee.signed s (n.natAbs*2^k) a=n*((2^(k+a):Nat):Int):=by unfold Ieee.signed;rw [Nat.shiftLeft_eq,Nat.mul_assoc,<-Nat.pow_add,Int.natCast_mul];rcases Int.lt_trichotomy n 0 with h|h|h;rw [b h,zP rfl,<-Int.neg_mul];congr 1;omega;subst h;simp;rw [c h,zO Z];congr 1;omega
theorem lj.write {s:Bool} {K:Nat} (h:i.natAbs<2^53) (a:i<0->s) (b:0<i->s=false):lj (Ieee.double.write (.number s (i.natAbs*2^K) (-(K:Int)))) i:=by obtain ⟨k,c⟩:=tf s i.natAbs K h;exact ⟨s,k,c,a,b⟩
theorem lj.of (n:Int) (h:n.natAbs<2^53):lj (FloatKind.f64.nearest n) n:=by have:=lj.write (s:=decide (n<0)) (K:=0) h Z W;simpa [FloatKind.nearest,FloatKind.encode,FloatKind.format] using this
theorem Iz (s t:Bool) (a b:Int) (k j:Nat) (g:a<0->s) (i:0<a->s=false) (l:b<0->t) (n:0<b->t=false):∃(c:Bool) (m:Nat),(Ieee.Datum.number s (a.natAbs*2^k) (-(k:Int))).sum (.number t (b.natAbs*2^j) (-(j:Int)))=some (.number c ((a+b).natAbs*2^m) (-(m:Int)))/\(a+b<0->c)/\(0<a+b->c=false):=by
 unfold Ieee.Datum.sum;obtain ⟨m,p⟩:∃m,m=max k j:=⟨_,rfl⟩;have o:min (-(k:Int)) (-(j:Int))= -(m:Int):=O;have e:(-(k:Int)- -(m:Int)).toNat=m-k:=O;have f:(-(j:Int)- -(m:Int)).toNat=m-j:=O;simp only [o,e,f,sg s a k _ g i,sg t b j _ l n];rw [show k+(m-k)=m by omega,show j+(m-j)=m by omega,<-Int.add_mul];have d:0<((2^m:Nat):Int):=by have:0<2^m:=Nat.pow_pos O;omega
 refine ⟨if (a+b)*((2^m:Nat):Int)=0 then s&&t else decide ((a+b)*((2^m:Nat):Int)<0),m,?_,?_,?_⟩;rw [Int.natAbs_mul,Int.natAbs_natCast];intro h;have:=Int.mul_neg_of_neg_of_pos h d;rw [zO O];simpa using this;intro h;have:=Int.mul_pos h d;rw [zO O];exact decide_eq_false O
theorem lj.add (q:lj a i) (r:lj b j) (h:(i+j).natAbs<2^53):∃z,Ieee.double.add a b=some z/\lj z (i+j):=by obtain ⟨s,k,c,e,f⟩:=q;obtain ⟨t,v,d,g,l⟩:=r;obtain ⟨w,m,e3,n,p⟩:=Iz s t i j k v e f g l;refine ⟨_,?_,lj.write (K:=m) h n p⟩;unfold Ieee.Format.add;rw [c,d,e3];rfl
theorem lj.sub (p:lj a i) (q:lj b j) (h:(i-j).natAbs<2^53):∃z,Ieee.double.sub a b=some z/\lj z (i-j):=by obtain ⟨s,k,e,g,l⟩:=p;obtain ⟨t,r,f,n,o⟩:=q;obtain ⟨v,m,e3,c,d⟩:=Iz s (!t) i (-j) k r g l (λh=>by rw [o O];rfl) (λh=>by rw [n O];rfl);rw [<-Int.sub_eq_add_neg] at c d e3;refine ⟨_,?_,lj.write (K:=m) h c d⟩;unfold Ieee.Format.sub;rw [e,f];simp only [Ieee.Datum.opposite];rw [Int.natAbs_neg] at e3;rw [e3];rfl
theorem lj.mul (q:lj a i) (r:lj b j) (h:(i*j).natAbs<2^53):∃z,Ieee.double.mul a b=some z/\lj z (i*j):=by
 obtain ⟨s,k,m,e,f⟩:=q;obtain ⟨t,v,n,g,l⟩:=r;have o:i*j<0->(s^^t):=λh=>by
  rcases Int.lt_trichotomy i 0 with c|c|c;have:0<j:=by rcases Int.lt_or_le 0 j with d|d;exact d;have:=Int.mul_nonneg_of_nonpos_of_nonpos (Int.le_of_lt c) d;omega
  rw [e c,l this];rfl;subst c;simp at h;have:j<0:=by rcases Int.lt_or_le j 0 with d|d;exact d;have:=Int.mul_nonneg (Int.le_of_lt c) d;omega
  rw [f c,g this];rfl
 have p:0<i*j->(s^^t)=false:=λh=>by
  rcases Int.lt_trichotomy i 0 with c|c|c;have:j<0:=by rcases Int.lt_or_le j 0 with d|d;exact d;have:=Int.mul_nonpos_of_nonpos_of_nonneg (Int.le_of_lt c) d;omega
  rw [e c,g this];rfl;subst c;simp at h;have:0<j:=by rcases Int.lt_or_le 0 j with d|d;exact d;have:=Int.mul_nonpos_of_nonneg_of_nonpos (Int.le_of_lt c) d;omega
  rw [f c,l this];rfl
 refine ⟨_,?_,lj.write (K:=k+v) h o p⟩;unfold Ieee.Format.mul;rw [m,n];simp only [Ieee.Datum.product,zM];congr 3;rw [Int.natAbs_mul,Nat.pow_add,Nat.mul_mul_mul_comm];omega
theorem lj.int (j:lj a i):(FloatKind.f64.decode a).toInt .zero=some i:=by
 obtain ⟨s,k,b,f,g⟩:=j;show (Ieee.double.read a).toInt .zero=some i;rw [b];unfold Ieee.Datum.toInt Ieee.Datum.integral Ieee.Toward.cut;have c:(-(k:Int)).toNat=0:=O;have d:(-(-(k:Int))).toNat=k:=O;simp only [c,d,Nat.shiftLeft_zero,Nat.one_shiftLeft];by_cases e:i=0;subst e;simp [Ieee.signed];have h:min k ((i.natAbs*2^k).log2+2)=k:=by rw [oD _ _ O];omega
 rw [h,Nat.mul_div_cancel _ (Nat.pow_pos O)];have:=sg s i 0 0 f g;simpa using this
theorem lj.neg (h:lj a i):lj (Op.negFloat .f64 a) (-i):=by
 obtain ⟨s,k,c,m,o⟩:=h;refine ⟨!s,k,?_,λh=>by rw [o O];rfl,λh=>by rw [m O];rfl⟩;have j:Op.negFloat .f64 a=a^^^2^63:=rfl;have q:(a^^^2^63)%2^63=a%2^63:=by rw [Nat.xor_mod_two_pow];simp
 have r:((a^^^2^63)/2^63%2==1)= !(a/2^63%2==1):=by
  have t:(a^^^2^63)/2^63=a/2^63^^^1:=by rw [Nat.xor_div_two_pow]
  rw [t];generalize a/2^63=y;have v:(y^^^1)%2=(y%2)^^^1:=by have:=Nat.xor_mod_two_pow (a:=y) (b:=1) (n:=1);simpa using this
  rw [v];rcases Nat.mod_two_eq_zero_or_one y with h|h <;> rw [h] <;> rfl
 have l:Ieee.double.signWeight=2^63:=by decide+kernel
 rw [j,Int.natAbs_neg];unfold Ieee.Format.read at c ⊢;rw [l] at c ⊢;rw [q,r];simp only at c ⊢;split at c;rename_i d;rw [zP d];injection c with e f g;rw [e,f,g]
 rename_i d;rw [zO d];split at c;rename_i p;rw [zP p];injection c with e f g;rw [e,f,g]
 split at c <;> cases c
def CI (z:TV) (a b:Int):Prop:=∃x y:Nat,z= .v (.complex .f64 x y)/\lj x a/\lj y b
theorem GW {P:aB} {d:aP} {k:IntKind} (f:(P.underlying t).isSome) (c:P.underlying d=some (.int k)) (h:lj a i) (b:k.min<=i/\i<=k.max):aj P (convert t d (.float .f64 a))=some (.int k i):=by have ⟨x,g⟩:=xM.1 f;unfold convert;rw [ar,dr g];show aj P (Go.underlying d>>=_)=_;rw [ar,dr c];have e:=h.int;cases x <;> (simp only [zR,Conv.floatToInt,e,b,and_self,if_true];rfl)
theorem DF {P:aB} {d:aP} (b:(P.underlying t).isSome) (a:P.underlying d=some (.float .f64)):aj P (convert t d (.int n i))=some (.float .f64 (FloatKind.f64.nearest i)):=by have ⟨x,c⟩:=xM.1 b;unfold convert;rw [ar,dr c];show aj P (Go.underlying d>>=_)=_;rw [ar,dr a];cases x <;> rfl
theorem K7:bJ prog 2 329 (I i) r s=some (.v (.float .f64 (FloatKind.f64.nearest i))):=by
 have h:gH prog 2 329 (.int .i64 i) []=some (.float .f64 (FloatKind.f64.nearest i),[]):=by show Option.map (λv=>(v,[])) (dt (aj prog (convert 2 329 (.int .i64 i))))=_;rw [DF Y Y];rfl
 unfold bJ;simp only [iF,zR];rw [zP (by rfl),h];rfl
theorem CA (h:lj a i) (b:-9223372036854775808<=i/\i<=9223372036854775807):bJ prog 329 2 (.v (.float .f64 a)) r s=some (I i):=by
 have h:gH prog 329 2 (.float .f64 a) []=some (.int .i64 i,[]):=by show Option.map (λv=>(v,[])) (dt (aj prog (convert 329 2 (.float .f64 a))))=_;rw [GW (k:=.i64) Y Y h b];rfl
 unfold bJ;simp only [iF,zR];rw [zP (by rfl),h];rfl
theorem OC:CF prog .complex #[329,329] 316 #[false,false] [.v (.float .f64 a),.v (.float .f64 b)]=some (.v (.complex .f64 a b)):=rfl
theorem OA:CF prog .real #[316] 329 #[false] [.v (.complex .f64 a b)]=some (.v (.float .f64 a)):=rfl
theorem OB:CF prog .imag #[316] 329 #[false] [.v (.complex .f64 a b)]=some (.v (.float .f64 b)):=rfl
theorem CN {g:BinOp} (i:aj prog (eqGuard g 316 (.tmp 0) (.tmp 0) (.complex .f64 a b) (.complex .f64 c d))=some ()) (h:aj prog (binOp g 316 (.complex .f64 a b) (.complex .f64 c d))=some (.complex .f64 e f)):cm prog g 316 (.v (.complex .f64 a b)) (.v (.complex .f64 c d))=some (.v (.complex .f64 e f)):=
 cy rfl rfl (bE rfl rfl rfl i h rfl)
theorem vD (h:Ieee.double.add a b=some c):aj prog (Op.Complex.arith .add .f64 a b)=some c:=by simp only [Op.Complex.arith,Op.floatArith,FloatKind.format,h,ar,ay,zR]
theorem vC (h:Ieee.double.sub a b=some c):aj prog (Op.Complex.arith .sub .f64 a b)=some c:=by simp only [Op.Complex.arith,Op.floatArith,FloatKind.format,h,ar,ay,zR]
theorem rF (h:Ieee.double.mul a b=some c):aj prog (Op.Complex.arith .mul .f64 a b)=some c:=by simp only [Op.Complex.arith,Op.floatArith,FloatKind.format,h,ar,ay,zR]
theorem Gv {d:Int} (h:CI x i j) (c:CI y k d) (e:(i+k).natAbs<2^53) (f:(j+d).natAbs<2^53):∃z,cm prog .add 316 x y=some z/\CI z (i+k) (j+d):=by obtain ⟨p,q,rfl,a,b⟩:=h;obtain ⟨r,s,rfl,e3,e4⟩:=c;have ⟨o,g,l⟩:=a.add e3 e;have ⟨z2,m,n⟩:=b.add e4 f;exact ⟨_,CN rfl (by simp only [binOp,zO,not_true,ne_eq,not_false_eq_true,Op.complexOp,ar,vD g,vD m,ay,zR]),o,z2,rfl,l,n⟩
theorem Gt {d:Int} (h:CI x i j) (c:CI y k d) (e:(i-k).natAbs<2^53) (f:(j-d).natAbs<2^53):∃z,cm prog .sub 316 x y=some z/\CI z (i-k) (j-d):=by obtain ⟨p,q,rfl,a,b⟩:=h;obtain ⟨r,s,rfl,e3,e4⟩:=c;have ⟨o,g,l⟩:=a.sub e3 e;have ⟨z2,m,n⟩:=b.sub e4 f;exact ⟨_,CN rfl (by simp only [binOp,zO,not_true,ne_eq,not_false_eq_true,Op.complexOp,ar,vC g,vC m,ay,zR]),o,z2,rfl,l,n⟩
theorem jS (b:i.natAbs<=a) (c:j.natAbs<=a):(i*j).natAbs<=a*a:=by rw [Int.natAbs_mul];exact Nat.mul_le_mul b c
theorem Gu {d:Int} (h:CI x i j) (m:CI y k d) (c:i.natAbs<=8388608) (e:j.natAbs<=8388608) (f:k.natAbs<=8388608) (g:d.natAbs<=8388608):∃z,cm prog .mul 316 x y=some z/\CI z (i*k-j*d) (i*d+j*k):=by obtain ⟨R,X,rfl,a,b⟩:=h;obtain ⟨y1,y2,rfl,e3,e4⟩:=m;have H:=jS c f;have J:=jS e g;have K:=jS c g;have m4:=jS e f;have ⟨L,o,v⟩:=a.mul e3 O;have ⟨M,p,w⟩:=b.mul e4 O;have ⟨N,q,A⟩:=a.mul e4 O;have ⟨P,r,C⟩:=b.mul e3 O;have ⟨F,s,D⟩:=v.sub w O;have ⟨z2,t,E⟩:=A.add C O;have l:∀n,Op.Complex.conv .f64 n .f64=pure n:=λn=>rfl;refine ⟨_,CN rfl ?_,F,z2,rfl,D,E⟩;simp only [binOp,zO,not_true,ne_eq,not_false_eq_true,Op.complexOp,l,ar,ay,zR,beq_self_eq_true,if_true,Op.Complex.product,Op.Complex.mul,Op.Complex.sub,Op.Complex.add,rF o,rF p,rF q,rF r,vC s,vD t]
theorem G9 (h:CI x i j):∃z,G8 prog .neg x=some z/\CI z (-i) (-j):=by obtain ⟨c,d,rfl,a,b⟩:=h;exact ⟨_,Ci rfl,_,_,rfl,a.neg,b.neg⟩
theorem Oy (n:Nat):uW (.v (.float .f64 n)) (.v (.float .f64 n)):=by simp [uW,nT,V.kp]
theorem vL (d c:Int):∃(z:TV) (a b:Int),CI z a b/\a.natAbs<=8388608/\b.natAbs<=8388608/\EP prog 200 [nG d c] (· =z):=by have ⟨a,e,h⟩:=Hj d;have ⟨b,f,i⟩:=Hj c;refine ⟨.v (.complex .f64 (FloatKind.f64.nearest a) (FloatKind.f64.nearest b)),a,b,⟨_,_,rfl,lj.of a O,lj.of b O⟩,O,O,EP.o Ru λs Q g=>?_⟩;simp [TP,CP.q e,CP.q f,K7,OC,Oy];exact g _ rfl
theorem Hk (h:CI x i j) (e:i.natAbs<2^53) (f:j.natAbs<2^53):∃p q:Int,EP prog 199 [x] (· =nG p q):=by have ⟨p,q,c,_⟩:=Hl i j;obtain ⟨g,y,rfl,a,b⟩:=h;refine ⟨p,q,EP.o Rv λs Q d=>?_⟩;simp [TQ,OA,OB,CA a O,CA b O,CP.q c];exact d _ rfl
theorem cxf:JI:={
 eq:=CK
 add:=λi f t m=>by have ⟨x,a,b,g,k,l,h⟩:=vL i f;have ⟨y,c,d,l1,n,o,r⟩:=vL t m;have ⟨z,j,z2⟩:=Gv g l1 O O;have ⟨p,q,z3⟩:=Hk z2 O O;obtain ⟨_,_,rfl,_⟩:=z2;refine ⟨p,q,EP.o Rn λs Q e=>?_⟩;simp [TJ,CP.q h,CP.q r,j,CP.q z3];exact e _ rfl
 sub:=λi f t m=>by have ⟨x,a,b,g,k,l,h⟩:=vL i f;have ⟨y,c,d,l1,n,o,r⟩:=vL t m;have ⟨z,j,z2⟩:=Gt g l1 O O;have ⟨p,q,z3⟩:=Hk z2 O O;obtain ⟨_,_,rfl,_⟩:=z2;refine ⟨p,q,EP.o Rm λs Q e=>?_⟩;simp [TH,CP.q h,CP.q r,j,CP.q z3];exact e _ rfl
 mul:=λi f t m=>by have ⟨x,a,b,g,k,l,h⟩:=vL i f;have ⟨y,c,d,l1,n,o,r⟩:=vL t m;have ⟨z,j,z2⟩:=Gu g l1 k l n o;have v:=jS k n;have w:=jS l o;have A:=jS k o;have m4:=jS l n;have ⟨p,q,z3⟩:=Hk z2 O O;obtain ⟨_,_,rfl,_⟩:=z2;refine ⟨p,q,EP.o Rl λs Q e=>?_⟩;simp [TD,CP.q h,CP.q r,j,CP.q z3];exact e _ rfl
 neg:=λi f=>by have ⟨x,a,b,g,k,l,h⟩:=vL i f;have ⟨z,j,z2⟩:=G9 g;have ⟨p,q,z3⟩:=Hk z2 O O;obtain ⟨_,_,rfl,_⟩:=z2;refine ⟨p,q,EP.o RX λs Q e=>?_⟩;simp [U6,CP.q h,j,CP.q z3];exact e _ rfl}
abbrev Ro:=Nat×Nat
structure Lay where
 id:Ro->Nat
 az:Ro->Nat
 al:Ro->Bool
def Lay.bump (A:Lay) (a:Ro):Lay:={A with az:=λr=>if r=a then A.az r+1 else A.az r}
def Lay.new (A:Lay) (r0:Ro) (n:Nat):Lay:={id:=λr=>if r=r0 then n else A.id r,az:=λr=>if r=r0 then 0 else A.az r,al:=λr=>if r=r0 then true else A.al r}
def Lay.drop (A:Lay) (a:Ro):Lay:={A with al:=λr=>if r=a then false else A.al r}
structure dA (fl:Nat) (A:Lay) (s:ae):Prop where
 ij:∀r r',A.al r->A.al r'->A.id r=A.id r'->r=r'
 lt:∀r,A.al r->A.id r<s.length
 lo:∀r,A.al r->fl<=A.id r
def x7 (r:Ro):Prop:=r=(0,0)\/r=(1,0)\/r=(5,0)
structure bQ (fl:Nat) (R:Ro->Prop) (A A':Lay) (s s':ae):Prop where
 ag:∀r,¬R r->A'.id r=A.id r/\A'.az r=A.az r/\A'.al r=A.al r
 fr:∀id,id<s.length->(∀r,R r->A.al r->A.id r≠id)->s'[id]? =s[id]?
 le:s.length<=s'.length
 ij:dA fl A' s'
 nw:∀r,A'.al r->(A.al r=true/\A'.id r=A.id r)\/s.length<=A'.id r
 fx:∀r,x7 r->A'.id r=A.id r/\A'.al r=A.al r
section
variable {fl:Nat} {R R':Ro->Prop} {A D E:Lay} {J h s'':ae} {r r0:Ro} {o:TO}
theorem bQ.refl (h:dA fl A J):bQ fl R A A J J:=⟨λ_ _=>⟨rfl,rfl,rfl⟩,λ_ _ _=>rfl,zC _,h,λ_ h=>.inl ⟨h,rfl⟩,λ_ _=>⟨rfl,rfl⟩⟩
theorem bQ.mono (a:bQ fl R A D J h) (c:∀r,R r->R' r):bQ fl R' A D J h:=
 ⟨λr b=>a.ag r λe=>b (c r e),λf d b=>a.fr f d λr e=>b r (c r e),a.le,a.ij,a.nw,a.fx⟩
theorem bQ.trans (b:bQ fl R A D J h) (k:bQ fl R D E h s''):bQ fl R A E J s'':={
 ag:=λr a=>by obtain ⟨a1,a2,a3⟩:=b.ag r a;obtain ⟨j,l,b3⟩:=k.ag r a;exact ⟨j.trans a1,l.trans a2,b3.trans a3⟩
 fr:=λi g a=>by rw [k.fr i (xN g b.le) λr n o e=>?_,b.fr i g a];rcases b.nw r o with ⟨c,d⟩|c;exact a r n c (d.symm.trans e);omega
 le:=yI b.le k.le
 ij:=k.ij
 nw:=λr a=>by rcases k.nw r a with ⟨c,d⟩|c;rcases b.nw r c with ⟨f,m⟩|f;exact .inl ⟨f,d.trans m⟩;exact .inr O;exact .inr (yI b.le c)
 fx:=λr a=>⟨(k.fx r a).1.trans (b.fx r a).1,(k.fx r a).2.trans (b.fx r a).2⟩}
theorem bQ.get (d:bQ fl R A D J h) (c:dA fl A J) (b:A.al r) (j:¬R r):h[A.id r]? =J[A.id r]? :=
 d.fr _ (c.lt r b) λk f g e=>j (c.ij k r g b e▸f)
structure NN (R:Ro->Prop) (A A':Lay) (s s':ae):Prop where
 ag:∀r,¬R r->A'.id r=A.id r/\A'.az r=A.az r/\A'.al r=A.al r
 get:∀r,A.al r->¬R r->s'[A.id r]? =s[A.id r]?
 fx:∀r,x7 r->A'.id r=A.id r/\A'.al r=A.al r
theorem bQ.tV (a:bQ fl R A D J h) (c:dA fl A J):NN R A D J h:=⟨a.ag,λ_ b d=>a.get c b d,a.fx⟩
theorem dA.ne (c:dA fl A J) (a:A.al r) (b:A.al r0) (d:r≠r0):A.id r≠A.id r0:=λe=>d (c.ij _ _ a b e)
theorem dA.aX (c:dA fl A J) (a:A.al r) (b:A.al r0) (d:r0≠r):(J.set (A.id r0) o)[A.id r]? =J[A.id r]? :=zE (c.ne b a d)
theorem dA.get_eq (a:dA fl A J) (h:A.al r):(J.set (A.id r) o)[A.id r]? =some o:=zF (a.lt r h)
theorem dA.fK (a:dA fl A J) (h:A.al r):(J++s)[A.id r]? =J[A.id r]? :=zD (a.lt r h)
theorem dA.ble (a:dA fl A J) (h:A.al r):Nat.ble fl (A.id r):=zX (a.lo r h)
theorem dA.set (a:dA fl A J) {i:Nat}:dA fl A (J.set i o):=⟨a.ij,by simpa using a.lt,a.lo⟩
theorem dA.bump (a:dA fl A J):dA fl (A.bump r0) J:=⟨a.ij,a.lt,a.lo⟩
theorem dA.new (b:dA fl A J) (g:fl<=J.length):dA fl (A.new r0 J.length) (J++[o]):=by refine ⟨λr i c d e=>?_,λr h=>?_,λr h=>?_⟩;simp only [Lay.new] at c d e;by_cases a:r=r0 <;> by_cases f:i=r0 <;> simp only [a,f,if_true,if_false] at c d e;rw [a,f];have:=b.lt _ d;omega;have:=b.lt _ c;omega;exact b.ij _ _ c d e;simp only [Lay.new] at h ⊢;by_cases a:r=r0 <;> simp only [a,if_true,if_false] at h ⊢;simp;have:=b.lt _ h;simp;omega;simp only [Lay.new] at h ⊢;by_cases a:r=r0 <;> simp only [a,if_true,if_false] at h ⊢;exact g;exact b.lo _ h
theorem bQ.set (c:dA fl A J) (h:A.al r0):bQ fl (· =r0) A A J (J.set (A.id r0) o):=
 ⟨λ_ _=>⟨rfl,rfl,rfl⟩,λd _ a=>zE (a r0 rfl h),Z,c.set,λr a=>.inl ⟨a,rfl⟩,λ_ _=>⟨rfl,rfl⟩⟩
theorem bQ.bump (b:dA fl A J) (h:A.al r0):bQ fl (· =r0) A (A.bump r0) J (J.set (A.id r0) o):=
 ⟨λr a=>⟨rfl,zO a,rfl⟩,λc _ a=>zE (a r0 rfl h),Z,b.set.bump,λr a=>.inl ⟨a,rfl⟩,λ_ _=>⟨rfl,rfl⟩⟩
theorem bQ.new (c:dA fl A J) (b:fl<=J.length) (d:¬x7 r0:=by simp [x7]):bQ fl (· =r0) A (A.new r0 J.length) J (J++[o]):=
 ⟨λr a=>⟨zO a,zO a,zO a⟩,λf h _=>zD h,Z,c.new b,λr a=>by
  simp only [Lay.new] at a ⊢;by_cases e:r=r0;right;simp [e];left;simp only [e,if_false] at a ⊢;exact ⟨a,trivial⟩,λr a=>by
  have e:r≠r0:=λe=>d (e▸a);simp [Lay.new,e]⟩
theorem bQ.lf (a:bQ fl R A D J h) (b:fl<=J.length):fl<=h.length:=yI b a.le
def SV (A:Lay) (r:Ro) (n sz:Nat) (v:TV):Prop:=(A.al r=true/\v= .m true (A.id r) (A.az r) 0 n sz)\/(A.al r=false/\n=0/\v= .sl true [])
end
@[simp] theorem dZ:prog.underlying 75=some (.pointer 153):=Y
@[simp] theorem iV:prog.underlying 162=some (.pointer 166):=Y
theorem cw {c:aP} (h:prog.underlying t=some (.pointer c)):cm prog .eql t (.p q a b) (.v (.pointer none))=some (B false):=by unfold cm;simp [iF,h,V.Hz]
theorem mU {c:aP} (h:prog.underlying t=some (.pointer c)):cm prog .neq t (.p q a b) (.v (.pointer none))=some (B true):=by unfold cm;simp [iF,h,V.Hz]
structure Ob where
 kind:Int
 of:Int
 text:aU
 bA:List Vl
def Ob.size (o:Ob):Nat:=if o.kind=3 then 1+(o.text.size+7)/8 else 1+o.bA.length
structure Hp where
 cells:Nat
 aD:List Ob
abbrev bY:Ro:=(1,0)
abbrev eJ:Ro:=(2,0)
abbrev gK (i:Nat):Ro:=(3,i)
abbrev dn (i:Nat):Ro:=(4,i)
def mh (A:Lay) (r:Ro) (n sz:Nat) (v:TV):Prop:=(A.al r=true/\v= .m true (A.id r) (A.az r) 0 n sz)\/(A.al r=false/\n=0/\∃o,v= .sl o [])
def qn (A:Lay) (n:Nat):cD:=(List.range n).map λi=>[.p true (A.id (gK i)) 0]
structure Ob.OK (o:Ob):Prop where
 kd:o.kind=3\/o.kind=6\/o.kind=7
 st:o.kind=3->o.bA=[]
structure mS (p:Bool) (A:Lay) (s:ae) (room:Nat) (H:Hp):Prop where
 hp:A.al bY/\∃lv,s[A.id bY]? =some (.row [I room,I H.cells,lv] 0)/\SV A eJ H.aD.length 1 lv
 hl:A.al eJ->s[A.id eJ]? =some (.aY (A.az eJ) 1 (qn A H.aD.length))
 ob:∀i o,H.aD[i]? =some o->A.al (gK i)/\∃vv,s[A.id (gK i)]? =some (.row [U o.kind,I o.of,.v (.string o.text),vv,B false] 0)/\mh A (dn i) o.bA.length 4 vv
 vs:∀i o,H.aD[i]? =some o->A.al (dn i)->s[A.id (dn i)]? =some (.aY (A.az (dn i)) 4 (o.bA.map aw))
 no:∀i,H.aD.length<=i->A.al (gK i)=false/\(H.aD.length<i\/p=false->A.al (dn i)=false)
 rm:room<=1000000
 ce:H.cells<=room
 su:(H.aD.map Ob.size).sum=H.cells
 ok:∀o∈H.aD,o.OK
abbrev HR:=mS false
theorem Ob.size_pos (o:Ob):0<o.size:=by unfold Ob.size;split <;> omega
theorem GC {L:List Ob} {o:Ob} (h:o∈L):o.size<=(L.map Ob.size).sum:=by
 induction L with
 | nil=>cases h
 | cons x L a=>rcases yL.1 h with rfl|h;simp;have:=a h;simp;omega
theorem GD (L:List Ob):L.length<=(L.map Ob.size).sum:=by
 induction L with
 | nil=>simp
 | cons x L a=>have:=x.size_pos;simp;omega
section
variable {A:Lay} {s:ae} {D fl:Nat} {H:Hp} {v:Vl} {E:Bool}
theorem mS.len (h:mS E A s D H):H.aD.length<=1000000:=by have:=GD H.aD;have:=h.su;have:=h.ce;have:=h.rm;omega
theorem mS.small (h:mS E A s D H) {o:Ob} (b:H.aD[a]? =some o):o.size<=1000000:=by have:=GC (zI b);have:=h.su;have:=h.ce;have:=h.rm;omega
theorem mS.JR (h:mS E A s D H) {o:Ob} (d:H.aD[a]? =some o):o.bA.length<=1000000:=by have b:=h.small d;by_cases c:o.kind=3;rw [(h.ok o (zI d)).st c];simp;unfold Ob.size at b;rw [zO c] at b;omega
theorem mS.Om (h:mS E A s D H) {o:Ob} (d:H.aD[a]? =some o) (c:o.kind=3):o.text.size<=8000000:=by have b:=h.small d;unfold Ob.size at b;rw [zP c] at b;omega
theorem SV.eO {r:Ro} {sz:Nat} {v:TV} {l:ae} (c:prog.underlying b=some (.slice t)) (h:SV A r a sz v):T.eO prog b v l s=some (I (a:Nat))/\T.eO prog b (bw v) l s=some (I (a:Nat)):=by rcases h with ⟨_,rfl⟩|⟨_,rfl,rfl⟩;exact ⟨fW c,fW c⟩;exact ⟨bX c,bX c⟩
theorem mh.eO {r:Ro} {sz:Nat} {v:TV} {l:ae} (c:prog.underlying b=some (.slice t)) (h:mh A r a sz v):T.eO prog b v l s=some (I (a:Nat))/\T.eO prog b (bw v) l s=some (I (a:Nat)):=by rcases h with ⟨_,rfl⟩|⟨_,rfl,o,rfl⟩;exact ⟨fW c,fW c⟩;exact ⟨bX c,bX c⟩
theorem gT:prog.underlying 79=some (.slice 96):=Y
theorem qN:prog.underlying 151=some (.slice 162):=Y
def Hp.at (H:Hp) (v:Vl):di:=if 1<=v.n then match H.aD[(v.n-1).toNat]? with
 | some o=>if o.kind=v.k then some (v.n-1).toNat else none
 | none=>none
 else none
theorem Hp.iy (h:H.at v=some a):∃o,H.aD[a]? =some o/\o.kind=v.k/\v.n=a+1:=by unfold Hp.at at h;split at h;split at h;rename_i o c;split at h;cases h;rename_i b;exact ⟨o,c,b,O⟩;cases h;cases h;cases h
def ql (A:Lay):di->TV
 | some i=>.p true (A.id (gK i)) 0
 | none=>.v (.pointer none)
theorem y6 (h:b<a):jF a s (.p true b c)=some (.p true b c):=by have:Nat.blt b a:=zX h;simp [jF,kA,jE,this]
theorem rN (h:mS E A s D H):EN prog 185 [.p true (A.id bY) 0,.ag (aw v)] s fl λr M=>r=ql A (H.at v)/\M=s:=by
 apply EN.o RH;have ⟨_,L,a,b⟩:=h.hp;have R:=λl=>(b.eO (s:=s) (l:=l) qN).1;have K:=λl=>(b.eO (s:=s) (l:=l) qN).2;by_cases j:v.n<1;simp [F3,cw dZ,j,Hp.at,show ¬1<=v.n by omega,ql];by_cases J:(H.aD.length:Int)<v.n;simp [F3,cw dZ,j,a,K,J,Hp.at,xE (show H.aD.length<=v.n.toNat-1 by omega),ql];obtain ⟨i,m⟩:∃i:Nat,v.n=i+1:=⟨(v.n-1).toNat,O⟩;have y:i<H.aD.length:=O;obtain ⟨o,c⟩:∃o,H.aD[i]? =some o:=⟨_,zA y⟩;have ⟨X,vv,d,o3⟩:=h.ob i _ c;have z:L= .m true (A.id eJ) (A.az eJ) 0 H.aD.length 1/\A.al eJ:=by rcases b with ⟨F,e⟩|⟨_,e,_⟩;exact ⟨e,F⟩;omega
 have f:=h.hl z.2;rw [z.1] at a;have P:=h.len;have C:i64.wrap (i:Int)=i:=bW O O;have g:(qn A H.aD.length)[i]? =some [.p true (A.id (gK i)) 0]:=by unfold qn;rw [zJ,xL y];rfl
 have p:¬((i:Int)+1<1):=O;have q:¬((H.aD.length:Int)<i+1):=O;have t:(i:Int)<H.aD.length:=O;have w:(1:Int)<=i+1:=O;have N:(i:Int)+1<=H.aD.length:=O;have x:=λl=>fW (r:=true) (id:=A.id eJ) (az:=A.az eJ) (off:=0) (n:=H.aD.length) (sz:=1) (l:=l) (s:=s) qN;by_cases k:o.kind=v.k;simp [F3,cw dZ,m,p,q,a,x,C,t,f,g,d,k,Hp.at,w,c,ql,y6 (ab d)];simp [F3,cw dZ,m,p,q,a,x,C,t,f,g,d,k,Hp.at,w,c,ql]
end
section
variable {A:Lay} {s:ae} {D fl:Nat} {H:Hp} {v:Vl}
theorem PJ {of:Int} {text:aU} {vv:TV} (f:i=3->text.size<=100000000) (v:a<=100000000) (o:∀l s,eO prog 79 vv l s=some (I (a:Nat))) (q:dX vv=vv) (n:bw vv=vv) (e:cH vv):EN prog 164 [.ag [U i,I of,.v (.string text),vv]] s fl λr p=>r=I ((if i=3 then 1+(text.size+7)/8 else 1+a:Nat):Int)/\p=s:=by
 apply EN.o S5;by_cases d:i=3;have f:=f d;have g:i64.wrap ((text.size:Int)+7)=((text.size+7:Nat):Int):=by rw [bW O O];omega
 have h:((text.size:Int)+7).tdiv 8=(((text.size+7)/8:Nat):Int):=by rw [Int.tdiv_eq_ediv_of_nonneg O];omega
 have j:i64.wrap (((text.size+7)/8:Nat):Int)=(((text.size+7)/8:Nat):Int):=bW O O;have c:i64.wrap (1+(((text.size+7)/8:Nat):Int))=((1+(text.size+7)/8:Nat):Int):=by rw [bW O O];omega
 have tq:=λm:Int=>uZ (P:=prog) (t:=3) (k:=.i64) (a:=m) (b:=8) O;simp at g h j c;simp [MM,d,e,K5,tq,g,h,j,c];have c:i64.wrap (1+(a:Int))=((1+a:Nat):Int):=by rw [bW O O];omega
 simp at c;simp [MM,d,e,n,o,c]
def Hp.text (H:Hp) (v:Vl):Option aU:=if v.k=3/\v.n=0 then some ⟨#[]⟩ else match H.at v with
 | some i=>if v.k=3 then (H.aD[i]?).map (·.text) else none
 | none=>none
theorem PE:EP prog 210 [.ag (aw v)] (· =B (decide (v.k=3/\v.n=0))):=by refine EP.o Rk λs Q b=>?_;by_cases a:v.k=3;simp [MI,a];exact b _ (by simp [a]);simp [MI,a];exact b _ (by simp [a])
theorem lE:cm prog .eql 162 (.v (.pointer none)) (.v (.pointer none))=some (B true):=Y
theorem Ax (h:HR A s D H):EN prog 175 [.p true (A.id bY) 0,.ag (aw v)] s fl λr k=>r= .tu [.v (.string ((H.text v).getD ⟨#[]⟩)),B (H.text v).isSome]/\k=s:=by
 apply EN.o RR;have c1:=rN (fl:=s.length) (v:=v) h;simp at c1;have a:=PE (v:=v);simp at a;by_cases b:v.k=3/\v.n=0;simp [F7,CL.q c1,mU dZ,CP.q a,zL b.1,zL b.2,Hp.text];have g:(decide (v.k=3)&&decide (v.n=0))=false:=by simpa using b
 cases c:H.at v with
 | none=>simp [F7,CL.q c1,mU dZ,CP.q a,g,Hp.text,c,ql,lE,zB b]
 | some i=>
  have ⟨o,e,m,n⟩:=Hp.iy c;have ⟨_,vv,f,l⟩:=h.ob i o e;have j:H.text v=if v.k=3 then some o.text else none:=by unfold Hp.text;rw [zO b,c];simp [e]
  rw [j];by_cases d:v.k=3;simp [F7,CL.q c1,mU dZ,CP.q a,c,ql,cw iV,zL d,zB (show ¬v.n=0 by omega),f];simp [F7,CL.q c1,mU dZ,CP.q a,c,ql,cw iV,zB d]
def Hp.sz (H:Hp) (v:Vl):Int×Int:=if v.k=3/\v.n=0 then (0,0) else match H.at v with
 | some i=>match H.aD[i]? with
  | some o=>(if v.k=3 then (o.text.size:Int) else (o.bA.length:Int),0)
  | none=>(0,3)
 | none=>(0,3)
theorem Aw (h:HR A s D H):EN prog 184 [.p true (A.id bY) 0,.ag (aw v)] s fl λr n=>r= .tu [I (H.sz v).1,U (H.sz v).2]/\n=s:=by
 apply EN.o RI;have c1:=rN (fl:=s.length) (v:=v) h;simp at c1;have a:=PE (v:=v);simp at a;by_cases b:v.k=3/\v.n=0;simp [F4,CL.q c1,mU dZ,CP.q a,zL b.1,zL b.2,Hp.sz];have j:(decide (v.k=3)&&decide (v.n=0))=false:=by simpa using b
 cases c:H.at v with
 | none=>simp [F4,CL.q c1,mU dZ,CP.q a,j,Hp.sz,c,ql,lE,zB b]
 | some i=>
  have ⟨o,f,p,q⟩:=Hp.iy c;have ⟨_,vv,d,g⟩:=h.ob i o f;have m:H.sz v=(if v.k=3 then (o.text.size:Int) else (o.bA.length:Int),0):=by unfold Hp.sz;rw [zO b,c];simp [f]
  have k:=λl=>(g.eO (s:=s) (l:=l) gT).2;rw [m];by_cases e:v.k=3;simp [F4,CL.q c1,mU dZ,CP.q a,c,ql,cw iV,zL e,zB (show ¬v.n=0 by omega),d,K5];simp [F4,CL.q c1,mU dZ,CP.q a,c,ql,cw iV,zB e,d,k]
def Hp.of (H:Hp) (v:Vl):Int:=match H.at v with
 | some i=>match H.aD[i]? with
  | some o=>o.of
  | none=>0
 | none=>0
theorem Py (h:HR A s D H):EN prog 239 [.p true (A.id bY) 0,.ag (aw v)] s fl λr d=>r=I (H.of v)/\d=s:=by
 apply EN.o QZ;have c1:=rN (fl:=s.length) (v:=v) h;simp at c1;cases a:H.at v with
 | none=>simp [MA,CL.q c1,Hp.of,a,ql,lE]
 | some i=>have ⟨o,b,f,g⟩:=Hp.iy a;have ⟨_,vv,c,e⟩:=h.ob i o b;simp [MA,CL.q c1,Hp.of,a,ql,cw iV,c,b]
theorem PK (H:Hp) (v:Vl) (i:Int):∃(w:Vl) (t:Int),(t=0\/t=2\/t=3)/\∀(A:Lay) (s:ae) (D fl:Nat),HR A s D H->EN prog 140 [.p true (A.id bY) 0,.ag (aw v),I i] s fl λb1 s'=>b1= .tu [.ag (aw w),U t]/\s'=s:=by
 by_cases a:(H.sz v).2=0;by_cases hi:i<0\/(H.sz v).1<=i;refine ⟨vz,2,.inr (.inl rfl),λA s D fl h=>EN.o EF ?_⟩;have c1:=Aw (fl:=s.length) (v:=v) h;simp at c1;by_cases g:i<0;simp [AX,CL.q c1,a,zL g,vz];have p:(H.sz v).1<=i:=by omega
 simp [AX,CL.q c1,a,zB g,zL p,vz];have g:¬i<0:=by omega
 have p:¬(H.sz v).1<=i:=O;have C:(H.sz v).1≠0:=O;obtain ⟨j,o,c,d,E⟩:∃j o,H.at v=some j/\H.aD[j]? =some o/\(H.sz v).1=if v.k=3 then (o.text.size:Int) else (o.bA.length:Int):=by
  by_cases q:v.k=3/\v.n=0;exact absurd (by unfold Hp.sz;rw [zP q]) C;cases c:H.at v with
  | none=>exact absurd (by unfold Hp.sz;rw [zO q,c]) C
  | some j=>have ⟨o,d,_⟩:=Hp.iy c;exact ⟨j,o,rfl,d,by unfold Hp.sz;rw [zO q,c];simp only [d]⟩
 have ⟨o',J,o2,o3⟩:=Hp.iy c;rw [d] at J;cases J;obtain ⟨n,P⟩:∃n:Nat,i=n:=⟨i.toNat,O⟩;subst P;by_cases e:v.k=3;rw [zP e] at E;have z:n<o.text.size:=O;have r:=sF (k:=.i64) (m:=n) (b:=o.text) ⟨O,O⟩;have M:i64.wrap (jy o.text n)=jy o.text n:=bW (by unfold jy;omega) (by unfold jy;have:=(o.text.data.toList.getD n 0).toNat_lt;omega);simp only [yV] at r;rw [show (((o.text.data.toList.getD n 0).toNat:Nat):Int)=jy o.text n from rfl] at r;refine ⟨lu (jy o.text n) (by unfold jy;omega),0,.inl rfl,λA s D fl h=>EN.o EF ?_⟩;have c1:=Aw (fl:=s.length) (v:=v) h;have f:=rN (fl:=s.length) (v:=v) h;simp at c1 f;have ⟨_,vv,l,y⟩:=h.ob j o d;simp [AX,CL.q c1,a,zB g,zB p,zL e,CL.q f,c,ql,l,r];exact ⟨rfl,M,rfl,rfl⟩;rw [zO e] at E;have z:n<o.bA.length:=O;obtain ⟨w,hw⟩:∃w,o.bA[n]? =some w:=⟨_,zA z⟩;refine ⟨w,0,.inl rfl,λA s D fl h=>EN.o EF ?_⟩;have c1:=Aw (fl:=s.length) (v:=v) h;have f:=rN (fl:=s.length) (v:=v) h;simp at c1 f;have ⟨_,vv,l,y⟩:=h.ob j o d;have F:vv= .m true (A.id (dn j)) (A.az (dn j)) 0 o.bA.length 4/\A.al (dn j):=by rcases y with ⟨K,x⟩|⟨_,x,_⟩;exact ⟨x,K⟩;omega
 rw [F.1] at l;have L:=h.vs j o d F.2;have R:(n:Int)<o.bA.length:=O;simp [AX,CL.q c1,a,zB g,zB p,zB e,CL.q f,c,ql,l,R,L,hw];have e:(H.sz v).2=3:=by unfold Hp.sz at a ⊢;split;rename_i h;rw [zP h] at a;exact absurd rfl a;rename_i h;rw [zO h] at a;split;rename_i j N;rw [N] at a;split;rename_i o X;simp [X] at a;rfl;rfl
 refine ⟨vz,3,.inr (.inr rfl),λA s D fl h=>EN.o EF ?_⟩;have c1:=Aw (fl:=s.length) (v:=v) h;simp at c1;simp [AX,CL.q c1,e,vz]
end
section
variable {A:Lay} {J:ae} {D fl:Nat} {H:Hp} {E:Vl} {h:Bool}
theorem mh.nf {r:Ro} {sz:Nat} {vv:TV} (h:mh A r a sz vv):dz vv=bw vv/\dX (bw vv)=bw vv/\bw (bw vv)=bw vv/\dz (bw vv)=bw vv/\cH (bw vv)/\cH vv/\dX vv=bw vv/\jz (bw vv)=bw vv/\mh A r a sz (bw vv)/\ce (bw vv)=[bw vv]:=by rcases h with ⟨b,rfl⟩|⟨b,rfl,o,rfl⟩;exact ⟨rfl,rfl,rfl,rfl,rfl,rfl,rfl,rfl,.inl ⟨b,rfl⟩,rfl⟩;exact ⟨rfl,rfl,rfl,rfl,rfl,rfl,rfl,rfl,.inr ⟨b,rfl,_,rfl⟩,rfl⟩
theorem Eh (o:Ob) {vv:TV} (b:mS h A J D H) (L:dA fl A J) (F:fl<=J.length) (e:mh A (dn H.aD.length) o.bA.length 4 vv) (n:o.kind=3->o.text.size<=100000000) (j:o.bA.length<=100000000) (K:¬(H.cells+o.size<=D)):
  EN prog 129 [.p true (A.id bY) 0,.ag [U o.kind,I o.of,.v (.string o.text),bw vv]] J fl λr p=>r= .tu [.ag (aw vz),B false]/\p=J:=by
 apply EW.o M6;have ⟨s,d,f,v,a,w,x,y,z,t⟩:=e.nf;have c:=PJ (fl:=fl) (s:=J) (of:=o.of) n j (λl J=>(e.eO gT).2) d f a;have ⟨_,N,g,C⟩:=b.hp;have E:=b.ce;have M:=b.rm;have q:i64.wrap ((D:Int)-H.cells)=(D:Int)-H.cells:=bW O O;have m:(if o.kind=3 then 1+(o.text.size+7)/8 else 1+o.bA.length)=o.size:=rfl;rw [m] at c;have i:((D:Int)-H.cells<o.size):=O;have k:bO [.ag [U o.kind,I o.of,.v (.string o.text),bw vv]]:=by simp [a]
 simp [HZ,d,a,CL.eq c k,g,q,i,vz]
def wW (n:Nat) (r:Ro):Prop:=r=bY\/r=eJ\/r=gK n\/r=dn n
theorem DP (A a:Lay) (n:Nat) (h:∀i,i<n->a.id (gK i)=A.id (gK i)):qn a (n+1)=qn A n++[[.p true (a.id (gK n)) 0]]:=by unfold qn;rw [xV,xR];congr 1;refine List.map_congr_left λi b=>?_;rw [h i (wE.1 b)]
theorem mS.ext {b:Lay} (o:Ob) {vv:TV} (g:mS h A J D H) (j:dA fl A J) (f:bQ fl (wW H.aD.length) A b J r) (N:H.cells+o.size<=D) (P:o.OK)
  (p:b.al bY) (K:r[b.id bY]? =some (.row [I D,I ((H.cells+o.size:Nat):Int),x] 0)) (w:b.al eJ/\x= .m true (b.id eJ) (b.az eJ) 0 (H.aD.length+1) 1) (L:r[b.id eJ]? =some (.aY (b.az eJ) 1 (qn b (H.aD.length+1))))
  (n:b.al (gK H.aD.length)/\r[b.id (gK H.aD.length)]? =some (.row [U o.kind,I o.of,.v (.string o.text),vv,B false] 0)/\mh b (dn H.aD.length) o.bA.length 4 vv)
  (M:b.al (dn H.aD.length)->r[b.id (dn H.aD.length)]? =some (.aY (b.az (dn H.aD.length)) 4 (o.bA.map aw))):HR b r D {cells:=H.cells+o.size,aD:=H.aD++[o]}:=by
 have C:∀k:Ro,¬wW H.aD.length k->A.al k->r[b.id k]? =J[A.id k]? :=λk y p=>by rw [(f.ag k y).1];exact f.get j p y
 have z:∀i,i<H.aD.length->¬wW H.aD.length (gK i):=λi j e=>by rcases e with e|e|e|e <;> simp at e;omega
 have t:∀i,i<H.aD.length->¬wW H.aD.length (dn i):=λi j e=>by rcases e with e|e|e|e <;> simp at e;omega
 have X:∀i,H.aD.length<i->¬wW H.aD.length (gK i)/\¬wW H.aD.length (dn i):=λi j=>⟨λe=>by rcases e with e|e|e|e <;> simp at e;omega,λe=>by rcases e with e|e|e|e <;> simp at e;omega⟩;have split:∀i c,(H.aD++[o])[i]? =some c->(i<H.aD.length/\H.aD[i]? =some c)\/(i=H.aD.length/\c=o):=λi c a=>by by_cases d:i<H.aD.length;rw [zD d] at a;exact .inl ⟨d,a⟩;rw [zH O] at a;have:=ab a;simp at this;have e:i=H.aD.length:=O;subst e;simp at a;exact .inr ⟨rfl,a.symm⟩
 refine ⟨⟨p,x,K,.inl ⟨w.1,by simpa using w.2⟩⟩,λ_=>by simpa using L,λi c a=>?_,λi c a l=>?_,λi j=>?_,g.rm,N,by simp [g.su],λc a=>?_⟩;rcases split i c a with ⟨d,a⟩|⟨rfl,rfl⟩;obtain ⟨E,vv,q2,q3⟩:=g.ob i c a;obtain ⟨z1,z2,z3⟩:=f.ag _ (z i d);obtain ⟨F,v,m⟩:=f.ag _ (t i d);refine ⟨z3.trans E,vv,(C _ (z i d) E).trans q2,?_⟩;rcases q3 with ⟨q,s⟩|⟨q,s⟩;exact .inl ⟨m.trans q,by rw [F,v];exact s⟩;exact .inr ⟨m.trans q,s⟩;exact ⟨n.1,vv,n.2.1,n.2.2⟩;rcases split i c a with ⟨d,a⟩|⟨rfl,rfl⟩;obtain ⟨F,v,m⟩:=f.ag _ (t i d);rw [m] at l;rw [C _ (t i d) l,v];exact g.vs i c a l;exact M l;simp at j;obtain ⟨l1,R⟩:=X i O;obtain ⟨n1,n2⟩:=g.no i O;exact ⟨(f.ag _ l1).2.2.trans n1,λ_=>(f.ag _ R).2.2.trans (n2 (.inl O))⟩;rcases xC.1 a with a|a;exact g.ok c a;simp at a;subst a;exact P
def Vc (o:Ob) (n:Nat) (h:0<=o.kind):Vl:=⟨o.kind,n+1,0,0,h,λ_=>O⟩
def Hp.add (H:Hp) (o:Ob):Hp:={cells:=H.cells+o.size,aD:=H.aD++[o]}
theorem yn (o:Ob) {vv:TV} (f:mS h A J D H) (a:dA fl A J) (hf:fl<=J.length) (b6:o.OK) (h0:0<=o.kind) (hv:mh A (dn H.aD.length) o.bA.length 4 vv) (K:A.al (dn H.aD.length)->J[A.id (dn H.aD.length)]? =some (.aY (A.az (dn H.aD.length)) 4 (o.bA.map aw))) (ht:o.kind=3->o.text.size<=100000000) (hn:o.bA.length<=100000000) (b1:H.cells+o.size<=D):
  EN prog 129 [.p true (A.id bY) 0,.ag [U o.kind,I o.of,.v (.string o.text),bw vv]] J fl λr s'=>r= .tu [.ag (aw (Vc o H.aD.length h0)),B true]/\∃N,HR N s' D (H.add o)/\bQ fl (wW H.aD.length) A N J s':=by
 apply EW.o M6;have ⟨f1,v,f3,f4,s,f6,f7,R,C,c6⟩:=hv.nf;have c:=PJ (fl:=fl) (s:=J) (of:=o.of) ht hn (λd5 J=>(hv.eO gT).2) v f3 s;have ⟨b,lv,X,g2⟩:=f.hp;have c7:=f.ce;have d3:=f.rm;have c9:=f.len;have w1:i64.wrap ((D:Int)-H.cells)=(D:Int)-H.cells:=bW O O;have c4:(if o.kind=3 then 1+(o.text.size+7)/8 else 1+o.bA.length)=o.size:=rfl;rw [c4] at c;have hc:¬((D:Int)-H.cells<o.size):=O;have b2:bO [.ag [U o.kind,I o.of,.v (.string o.text),bw vv]]:=by simp [s]
 have w2:i64.wrap ((H.cells:Int)+o.size)=((H.cells+o.size:Nat):Int):=by rw [bW O O];omega
 have t:=a.lo _ b;have gs:=λx=>a.get_eq (o:=x) b;have ⟨d6,d7⟩:=f.no H.aD.length (zC _);have nr:∀r r0:Ro,r≠r0->¬r=r0:=λ_ _ f=>f;rcases g2 with ⟨al,rfl⟩|⟨al,g,rfl⟩;have g3:=f.hl al;have c2:=a.lo _ al;have gl:∀x y:TO,(J.set (A.id bY) x++[y])[A.id eJ]? =some (.aY (A.az eJ) 1 (qn A H.aD.length)):=λx y=>by rw [a.set.fK al,a.aX al b Z];exact g3
 have E:∀x y z:TO,((J.set (A.id bY) x++[y]).set (A.id eJ) z)[A.id bY]? =some x:=λx y z=>by rw [zE (a.ne al b Z),a.set.fK b,a.get_eq b]
 simp [HZ,v,s,R,CL.eq c b2,X,w1,w2,hc,t,gs];rw [kI (news:=[[.p true J.length 0]]) (by simp [jW])];have F:fits (H.aD.length+1) 8:=by unfold fits;exact decide_eq_true ⟨O,O⟩
 have c3:(qn A H.aD.length).length=H.aD.length:=by simp [qn]
 have m:∀x y z w:TO,(((J.set (A.id bY) x++[y]).set (A.id eJ) z).set (A.id bY) w)[A.id bY]? =some w:=λx y z w=>zF (by simp;have:=a.lt _ b;omega);simp [gl,t,c2,F,c3,E,m,yC (l:=qn A H.aD.length) (i:=H.aD.length) O];refine ⟨⟨rfl,rfl,rfl,rfl⟩,(A.new (gK H.aD.length) J.length).bump eJ,?_⟩;generalize hx:TO.row [I D,TV.v (Value.int i64 ((H.cells:Int)+o.size)),TV.m true (A.id eJ) (A.az eJ) 0 H.aD.length 1] 0=x;generalize L:TO.row [TV.v (Value.int u8 o.kind),TV.v (Value.int i64 o.of),TV.v (Value.string o.text),bw vv,TV.v (Value.bool false)] 0=y;have p:=bQ.set a b (o:=x);have u2:bQ fl (· =gK H.aD.length) A (A.new (gK H.aD.length) J.length) (J.set (A.id bY) x) (J.set (A.id bY) x++[y]):=by simpa using bQ.new p.ij (Zs hf)
 have P:(A.new (gK H.aD.length) J.length).al eJ:=by simp [Lay.new,al]
 have u3:bQ fl (· =eJ) (A.new (gK H.aD.length) J.length) ((A.new (gK H.aD.length) J.length).bump eJ) (J.set (A.id bY) x++[y]) ((J.set (A.id bY) x++[y]).set (A.id eJ) (TO.aY (A.az eJ+1) 1 (qn A H.aD.length++[[TV.p true J.length 0]]))):=bQ.bump u2.ij P;have k:((A.new (gK H.aD.length) J.length).bump eJ).al bY:=by simp [Lay.new,Lay.bump,b]
 have M:bQ fl (· =bY) ((A.new (gK H.aD.length) J.length).bump eJ) ((A.new (gK H.aD.length) J.length).bump eJ) _ (((J.set (A.id bY) x++[y]).set (A.id eJ) (TO.aY (A.az eJ+1) 1 (qn A H.aD.length++[[TV.p true J.length 0]]))).set (A.id bY) (TO.row [I D,TV.v (Value.int i64 ((H.cells:Int)+o.size)),TV.m true (A.id eJ) (A.az eJ+1) 0 (H.aD.length+1) 1] 0)):=bQ.set u3.ij k;have n:bQ fl (wW H.aD.length) A _ J _:=(((p.mono λr e=>.inl e).trans (u2.mono λr e=>.inr (.inr (.inl e)))).trans (u3.mono λr e=>.inr (.inl e))).trans (M.mono λr e=>.inl e);have q:((A.new (gK H.aD.length) J.length).bump eJ).id (gK H.aD.length)=J.length:=by simp [Lay.new,Lay.bump]
 have l:((A.new (gK H.aD.length) J.length).bump eJ).az (dn H.aD.length)=A.az (dn H.aD.length):=by simp [Lay.new,Lay.bump]
 have e3:((A.new (gK H.aD.length) J.length).bump eJ).al (dn H.aD.length)=A.al (dn H.aD.length):=by simp [Lay.new,Lay.bump]
 have e4:((A.new (gK H.aD.length) J.length).bump eJ).id (dn H.aD.length)=A.id (dn H.aD.length):=by simp [Lay.new,Lay.bump]
 refine ⟨f.ext (vv:=bw vv) o a n b1 b6 k (m _ _ _ _) ⟨P,rfl⟩ ?_ ⟨by simp [Lay.new,Lay.bump],?_,?_⟩ ?_,n⟩;rw [DP A _ _ (λd4 c8=>by simp [Lay.new,Lay.bump];omega),q];show (List.set _ (A.id bY) _)[A.id eJ]? =_;rw [zE (a.ne b al Z),zF (by simp;have:=a.lt _ al;omega)];rfl;rw [q,zE (Zo (a.lt _ b)),zE (Zo (a.lt _ al)),zH Z,<-L];simp;rcases C with ⟨i,j⟩|⟨i,j⟩;exact .inl ⟨e3.trans i,by rw [e4,l];exact j⟩;exact .inr ⟨e3.trans i,j⟩;intro d;rw [e3] at d;rw [e4,l,zE (a.ne b d Z),zE (a.ne al d Z),a.set.fK d,a.aX d b Z];exact K d;have d2:qn A H.aD.length=[]:=by rw [g];rfl
 have E:∀x y z:TO,(J.set (A.id bY) x++[y,z])[A.id bY]? =some x:=λx y z=>by rw [a.set.fK b,a.get_eq b]
 simp [HZ,v,s,R,CL.eq c b2,X,w1,w2,hc,t,gs];rw [fB (news:=[[.p true J.length 0]]) (by simp [jW])];have F:fits 1 8:=by decide
 have m:∀x y z w:TO,((J.set (A.id bY) x++[y,z]).set (A.id bY) w)[A.id bY]? =some w:=λx y z w=>zF (by simp;have:=a.lt _ b;omega);simp [t,F,E,m,db];rw [g];refine ⟨⟨rfl,rfl,rfl,rfl⟩,(A.new (gK 0) J.length).new eJ (J.length+1),?_⟩;generalize hx:TO.row [I D,TV.v (Value.int i64 ((H.cells:Int)+o.size)),TV.sl false []] 0=x;generalize L:TO.row [TV.v (Value.int u8 o.kind),TV.v (Value.int i64 o.of),TV.v (Value.string o.text),bw vv,TV.v (Value.bool false)] 0=y;have p:=bQ.set a b (o:=x);have u2:bQ fl (· =gK 0) A (A.new (gK 0) J.length) (J.set (A.id bY) x) (J.set (A.id bY) x++[y]):=by simpa using bQ.new p.ij (Zs hf)
 have u3:bQ fl (· =eJ) (A.new (gK 0) J.length) ((A.new (gK 0) J.length).new eJ (J.length+1)) (J.set (A.id bY) x++[y]) (J.set (A.id bY) x++[y,TO.aY 0 1 [[TV.p true J.length 0]]]):=by simpa using bQ.new u2.ij W
 have k:((A.new (gK 0) J.length).new eJ (J.length+1)).al bY:=by simp [Lay.new,b]
 have M:bQ fl (· =bY) ((A.new (gK 0) J.length).new eJ (J.length+1)) ((A.new (gK 0) J.length).new eJ (J.length+1)) _ ((J.set (A.id bY) x++[y,TO.aY 0 1 [[TV.p true J.length 0]]]).set (A.id bY) (TO.row [I D,TV.v (Value.int i64 ((H.cells:Int)+o.size)),TV.m true (J.length+1) 0 0 1 1] 0)):=bQ.set u3.ij k;have n:bQ fl (wW 0) A _ J _:=(((p.mono λr e=>.inl e).trans (u2.mono λr e=>.inr (.inr (.inl e)))).trans (u3.mono λr e=>.inr (.inl e))).trans (M.mono λr e=>.inl e);have q:((A.new (gK 0) J.length).new eJ (J.length+1)).id (gK 0)=J.length:=by simp [Lay.new]
 have l:((A.new (gK 0) J.length).new eJ (J.length+1)).az (dn 0)=A.az (dn 0):=by simp [Lay.new]
 have e3:((A.new (gK 0) J.length).new eJ (J.length+1)).al (dn 0)=A.al (dn 0):=by simp [Lay.new]
 have e4:((A.new (gK 0) J.length).new eJ (J.length+1)).id (dn 0)=A.id (dn 0):=by simp [Lay.new]
 have e5:((A.new (gK 0) J.length).new eJ (J.length+1)).id eJ=J.length+1:=by simp [Lay.new]
 have d1:=a.lt _ b;rw [g] at K C;have c5:=f.ext (vv:=bw vv) o a (by rw [g];exact n) b1 b6 k (m _ _ _ _) ⟨by simp [Lay.new],by rw [g,e5];simp [Lay.new]⟩ ?_ ?_ ?_;exact ⟨c5,n⟩;rw [g,e5,zE O,zH Z];simp [qn,xV,Lay.new];rw [g];refine ⟨by simp [Lay.new],?_,?_⟩;rw [q,zE O,zH Z,<-L];simp;rcases C with ⟨i,j⟩|⟨i,j⟩;exact .inl ⟨e3.trans i,by rw [e4,l];exact j⟩;exact .inr ⟨e3.trans i,j⟩;rw [g];intro d;rw [e3] at d;rw [e4,l,zE (a.ne b d Z),a.set.fK d,a.aX d b Z];exact K d
end
def Rh (r:Ro):Prop:=1<=r.1/\r.1<=4
section
variable {A D:Lay} {J h:ae} {E fl:Nat} {H H':Hp} {v:Vl} {p:Bool} {R:Ro->Prop}
theorem wW.rh {r:Ro} (h:wW a r):Rh r:=by rcases h with rfl|rfl|rfl|rfl <;> simp [Rh]
theorem mS.tV (hp:p->q) (a:mS p A J E H) (b:NN R A D J h) (f:∀r,Rh r->¬R r\/(q=true/\r=dn H.aD.length)):mS q D h E H:=by
 have L:¬R bY:=by rcases f bY (by simp [Rh]) with a|a;exact a;simp at a
 have M:¬R eJ:=by rcases f eJ (by simp [Rh]) with a|a;exact a;simp at a
 have m:∀i,¬R (gK i):=λi=>by rcases f (gK i) (by simp [Rh]) with a|a;exact a;simp at a
 have s:∀i,i≠H.aD.length->¬R (dn i):=λi hn=>by rcases f (dn i) (by simp [Rh]) with a|a;exact a;simp at a;omega
 obtain ⟨K,lv,X,h3⟩:=a.hp;obtain ⟨a1,a2,a3⟩:=b.ag _ L;obtain ⟨C,F,b3⟩:=b.ag _ M;have P:∀n,qn D n=qn A n:=λn=>by unfold qn;simp only [λi=>(b.ag _ (m i)).1]
 refine ⟨⟨a3.trans K,lv,by rw [a1,b.get _ K L];exact X,?_⟩,λd=>?_,λi o g=>?_,λi o g d=>?_,λi x=>?_,a.rm,a.ce,a.su,a.ok⟩;rcases h3 with ⟨e,j⟩|⟨e,j⟩;exact .inl ⟨b3.trans e,by rw [C,F];exact j⟩;exact .inr ⟨b3.trans e,j⟩;rw [b3] at d;rw [C,F,b.get _ d M,P];exact a.hl d;obtain ⟨e,vv,j,x3⟩:=a.ob i o g;have b6:=ab g;obtain ⟨c1,N,t⟩:=b.ag _ (m i);obtain ⟨v,w,l⟩:=b.ag _ (s i O);refine ⟨t.trans e,vv,by rw [c1,b.get _ e (m i)];exact j,?_⟩;rcases x3 with ⟨y,z⟩|⟨y,z⟩;exact .inl ⟨l.trans y,by rw [v,w];exact z⟩;exact .inr ⟨l.trans y,z⟩;have b6:=ab g;obtain ⟨v,w,l⟩:=b.ag _ (s i O);rw [l] at d;rw [v,w,b.get _ d (s i O)];exact a.vs i o g d;obtain ⟨c1,N,t⟩:=b.ag _ (m i);refine ⟨by rw [t];exact (a.no i x).1,λc=>?_⟩;rcases c with c|c;rw [(b.ag _ (s i O)).2.2];exact (a.no i x).2 (.inl c);have c4:p=false:=by cases p with
  | false=>rfl
  | true=>rw [hp rfl] at c;cases c
 rcases f (dn i) (by simp [Rh]) with k|k;rw [(b.ag _ k).2.2];exact (a.no i x).2 (.inr c4);rw [k.1] at c;cases c
theorem mS.JW (d:p->q) (a:mS p A J E H) (c:dA fl A J) (e:bQ fl R A D J h) (b:∀r,Rh r->¬R r\/(q=true/\r=dn H.aD.length)):mS q D h E H:=a.tV d (e.tV c) b
theorem mS.jm (a:mS p A J E H) (c:dA fl A J) (e:bQ fl R A D J h) (b:∀r,Rh r->¬R r):mS p D h E H:=a.JW (λa=>a) c e λr d=>.inl (b r d)
theorem bQ.mI (a:dA fl A J) (t:ae):bQ fl R A A J (J++t):=
 ⟨λ_ _=>⟨rfl,rfl,rfl⟩,λb h _=>zD h,Z,⟨a.ij,λr h=>by have:=a.lt r h;simp;omega,a.lo⟩,λr h=>.inl ⟨h,rfl⟩,λ_ _=>⟨rfl,rfl⟩⟩
def WO (H H':Hp) (w:Vl) (a fl:Nat) (A:Lay) (J:ae) (E:Nat) (r:TV) (h:ae):Prop:=
 (a<=E/\r= .tu [.ag (aw w),B true]/\∃D,HR D h E H'/\bQ fl Rh A D J h)\/(E<a/\r= .tu [.ag (aw vz),B false]/\∃D,HR D h E H/\bQ fl Rh A D J h)
def vtx:Vl:=⟨3,0,0,0,O,O⟩
theorem m91 (H:Hp) (b:aU) (l:b.size<=100000000):∃(H':Hp) (w:Vl) (q:Nat),∀(A:Lay) (J:ae) (E fl:Nat),HR A J E H->dA fl A J->fl<=J.length->EN prog 91 [.p true (A.id bY) 0,.v (.string b)] J fl (WO H H' w q fl A J E):=by
 by_cases f:b=⟨#[]⟩;refine ⟨H,vtx,0,λA J E fl a d j=>EW.o e91 ?_⟩;simp [WH,cw dZ,f];exact .inl ⟨O,rfl,A,a,.refl d⟩;let o:Ob:=⟨3,0,b,[]⟩
 refine ⟨H.add o,Vc o H.aD.length (by simp [o]),H.cells+o.size,λA J E fl a d j=>EW.o e91 ?_⟩;have ⟨s,n⟩:=a.no H.aD.length (zC _);have m:mh A (dn H.aD.length) o.bA.length 4 (.sl false []):=.inr ⟨n (.inr rfl),rfl,_,rfl⟩;by_cases k:H.cells+o.size<=E;have c:=yn o a d j ⟨.inl rfl,λ_=>rfl⟩ (by simp [o]) m (λe=>by rw [n (.inr rfl)] at e;cases e) (λ_=>l) (by simp [o]) k;simp [o] at c;simp [WH,cw dZ,f];refine CL.o c λr h ⟨g,D,i,p⟩=>?_;subst g;simp;exact .inl ⟨k,rfl,D,i,p.mono λr=>wW.rh⟩;have c:=Eh o a d j m (λ_=>l) (by simp [o]) k;simp [o] at c;simp [WH,cw dZ,f];refine CL.o c λr h ⟨g,i⟩=>?_;subst g;subst i;simp;exact .inr ⟨O,rfl,A,a,.refl d⟩
theorem BC (L:List Vl):cR 2 4 (L.map aw):=by
 induction L with
 | nil=>rfl
 | cons x L a=>simp [a]
theorem Jr {a:List Vl} (b:aO [] J x=some (a.map aw)) (c:a.length<=1000000000000) (d:Fy x=false:=by rfl):EN prog 2025 [x] J fl λr h=>(a=[]/\r= .sl true []/\h=J)\/(a≠[]/\r= .m true J.length 0 0 a.length 4/\h=J++[.aY 0 4 (a.map aw)]):=by
 cases a with
 | nil=>exact Ends.iN (f:=bI 4 32 2) Y Y (by simp [bI,b,d]) (.inl ⟨rfl,rfl,rfl⟩)
 | cons v L=>
  have e:fits (L.length+1) 32:=by unfold fits;exact decide_eq_true ⟨by simp at c;omega,by simp at c;omega⟩
  have g:=BC (v::L);refine Ends.iN (f:=bI 4 32 2) Y Y (r:=.m true J.length 0 0 (L.length+1) 4) ?_ (.inr ⟨Z,Z,rfl⟩);unfold bI;simp only [b,d,xA,if_false,yS];rw [fB b];simp [BC,e,db]
def mG (a:Int) (b:List Vl):Ob:=⟨6,a,⟨#[]⟩,b⟩
theorem ZK (H:Hp) (a:Int) (b:List Vl) (P:0<=a) (q:b.length<=100000000):∃(H':Hp) (w:Vl) (L:Nat),∀(A:Lay) (J:ae) (E fl:Nat) (x:TV),HR A J E H->dA fl A J->fl<=J.length->aO [] J x=some (b.map aw)->aW x->dz x=x->Fy x=false->EN prog 187 [.p true (A.id bY) 0,I a,x] J fl (WO H H' w L fl A J E):=by
 refine ⟨H.add (mG a b),Vc (mG a b) H.aD.length (by simp [mG]),H.cells+(mG a b).size,λA J E fl x k f n K C z j=>EW.o RD ?_⟩;have ⟨X,v⟩:=k.no H.aD.length (zC _);have c:=Jr (fl:=fl) K O j;have F:bO [x]:=by simp [C]
 simp [U0,cw dZ,zB (show ¬a<0 by omega),z];refine CL.of c F λr s1 d=>?_;have s:(mG a b).OK:=⟨.inr (.inl rfl),λe=>by simp [mG] at e⟩;rcases d with ⟨rfl,rfl,rfl⟩|⟨N,rfl,rfl⟩;have j:mh A (dn H.aD.length) (mG a []).bA.length 4 (.sl false []):=.inr ⟨v (.inr rfl),rfl,_,rfl⟩;by_cases i:H.cells+(mG a []).size<=E;have c:=yn (mG a []) k f n s (by simp [mG]) j (λe=>by rw [v (.inr rfl)] at e;cases e) (λe=>by simp [mG] at e) (by simp [mG]) i;simp [mG] at c;simp;refine CL.o c λr h ⟨d,D,g,m⟩=>?_;subst d;simp;exact .inl ⟨i,rfl,D,g,m.mono λr=>wW.rh⟩;have c:=Eh (mG a []) k f n j (λe=>by simp [mG] at e) (by simp [mG]) i;simp [mG] at c;simp;refine CL.o c λr h ⟨d,g⟩=>?_;subst d;subst g;simp;exact .inr ⟨O,rfl,A,k,.refl f⟩;have l:bQ fl (· =dn H.aD.length) A (A.new (dn H.aD.length) J.length) J (J++[.aY 0 4 (b.map aw)]):=bQ.new f n;have o:=k.JW (λe=>by cases e) f l λr R=>by by_cases e:r=dn H.aD.length;exact .inr ⟨rfl,e⟩;exact .inl e
 have y:(A.new (dn H.aD.length) J.length).al (dn H.aD.length):=by simp [Lay.new]
 have hid:(A.new (dn H.aD.length) J.length).id (dn H.aD.length)=J.length:=by simp [Lay.new]
 have t:(A.new (dn H.aD.length) J.length).az (dn H.aD.length)=0:=by simp [Lay.new]
 have p:(A.new (dn H.aD.length) J.length).id bY=A.id bY:=by simp [Lay.new]
 have j:mh (A.new (dn H.aD.length) J.length) (dn H.aD.length) (mG a b).bA.length 4 (.m true J.length 0 0 b.length 4):=.inl ⟨y,by rw [hid,t];rfl⟩;by_cases i:H.cells+(mG a b).size<=E;have c:=yn (mG a b) o l.ij W s (by simp [mG]) j (λ_=>by rw [hid,t];simp [mG]) (λe=>by simp [mG] at e) q i;rw [p] at c;simp [mG] at c;simp;refine CL.o c λr h ⟨d,D,g,m⟩=>?_;subst d;simp;exact .inl ⟨i,rfl,D,g,(l.mono λr e=>by rw [e];simp [Rh]).trans (m.mono λr=>wW.rh)⟩;have c:=Eh (mG a b) o l.ij W j (λe=>by simp [mG] at e) q i;rw [p] at c;simp [mG] at c;simp;refine CL.o c λr h ⟨d,g⟩=>?_;subst d;subst g;simp;have M:bQ fl Rh A A J (J++[.aY 0 4 (b.map aw)]):=bQ.mI f _;exact .inr ⟨O,rfl,A,k.jm f (bQ.mI f _) (λ_ _=>id),M⟩
end
theorem FJ (a:0<=i) (b:i<18446744073709551616):u64.wrap i=i:=by simp only [IntKind.wrap,IntKind.signed,IntKind.bits];simp;omega
section
variable {P:aB} {t:aP}
theorem Fc {n:Nat} (h:n<4294967296):cm P .and t (.v (.int .u64 n)) (.v (.int .u64 4294967295))=some (.v (.int .u64 n)):=by
 have c:=cy rfl rfl (F0 (P:=P) t .u64 n 4294967295);rw [c];have e:(BitVec.ofInt u64.bits n&&& BitVec.ofInt u64.bits 4294967295).toNat=n:=by
  show (BitVec.ofInt 64 (n:Int)&&& BitVec.ofInt 64 4294967295:BitVec 64).toNat=n;rw [BitVec.toNat_and];have a:(BitVec.ofInt 64 (n:Int)).toNat=n:=W;have b:(BitVec.ofInt 64 4294967295).toNat=2^32-1:=by decide
  rw [a,b,Nat.and_two_pow_sub_one_eq_mod];omega
 rw [e,FJ O O];rfl
theorem CY {n:Nat} (h:n<4294967296):cm P .shr t (.v (.int .u64 n)) (.v (.int .u64 32))=some (.v (.int .u64 0)):=by
 have a:=cy rfl rfl (EZ (P:=P) t .u64 n 32 .u64 O);rw [a];have e:(n:Int).fdiv (2^(min (Int.toNat 32) u64.bits))=0:=by have:min (Int.toNat 32) u64.bits=32:=Y;rw [this,Int.fdiv_eq_ediv_of_nonneg _ O];omega
 rw [e];rfl
end
theorem Zp (h:a<4294967296):EP prog 229 [.v (.int .u64 1),.v (.int .u64 a)] (· = .tu [.v (.int .u64 0),.v (.int .u64 a)]):=by refine EP.o R6 λs Q d=>?_;have a1:=Fc (P:=prog) (t:=301) (n:=1) O;have a2:=Fc (P:=prog) (t:=301) h;have a3:=Fc (P:=prog) (t:=301) (n:=0) O;have b:=CY (P:=prog) (t:=301) (n:=1) O;have c:=CY (P:=prog) (t:=301) h;have b3:=CY (P:=prog) (t:=301) (n:=0) O;have e:u64.wrap 0=0:=FJ O O;have f:u64.wrap (a:Int)=a:=FJ O O;simp at a1 a3 b b3;simp [Tp,a1,a2,a3,b,c,b3,e,f];exact d _ rfl
theorem Zt {n:Nat} (h:n<4294967296):EP prog 223 [.v (.int .u64 1),.v (.int .u64 n)] (· = .tu [.v (.int .u64 0),.v (.int .u64 n)]):=by refine EP.o R9 λs Q a=>?_;simp [Ts,CP.q (Zp h)];exact a _ rfl
section
variable {s l:ae} {fl id az off n sz e:Nat} {y:TV}
theorem y8 {a es:cD} (h:aO l s y=some a) (i:Fy y=false) (j:T.cR 1 e a) (c:0<e) (g:s[id]? =some (.aY az e es)) (f:off+n<=es.length) (d:Nat.ble fl id) (b:min a.length n≠0):
  lC e fl (.m true id az off n e) y l s=some (I ((min a.length n:Nat):Int),l,s.set id (.aY az e (es.take off++(a.take (min a.length n)++es.drop (off+min a.length n))))):=by
 unfold lC;simp only [h,j,i,c,and_self,if_true,T.ob,cond_true,g,wr,d,put,f,zO b]
theorem BD (L:List Vl):T.cR 1 4 (L.map aw):=by
 induction L with
 | nil=>rfl
 | cons x L a=>simp [a]
end
theorem Pu {l s:ae} (b:a<=1000000):Q.E9 2 4 32 (aw vz) (I a) (I a) l s=some (.m true s.length 0 0 a 4,l,s++[.aY 0 4 (List.replicate a (aw vz))]):=by unfold Q.E9;simp;unfold mT;show (if _ then _ else none)=_;rw [zP ⟨O,O,O,λh=>O,rfl,rfl⟩];simp [db,mC]
theorem Ai:me prog 96=some 4:=Y
theorem IA {bp n id az off:Nat} {l s:ae} {es:cD} (b:1<=bp) (c:bp<n) (a:s[id]? =some (.aY az 4 es)):aK prog 79 (some (I bp)) none none l s (.m true id az off n 4)=some (.m true id az (off+bp) (n-bp) 4):=by unfold aK;simp only [gT,Ai,zR,Bj,pC];rw [zP (show (0:Int)<=bp by omega)];simp only [yV];rw [zP ⟨O,zC _⟩,zO O,zO O];simp only [T.ob,cond_true,a,and_self,if_true]
theorem CW {bp n id az off sz:Nat} {l s:ae} (a:bp<=n):aK prog 79 none (some (I bp)) none l s (.m true id az off n sz)=some (.m true id az off bp sz):=by unfold aK;simp only [gT,Ai,zR,Bj,pC];rw [zP (show (0:Int)<=bp by omega)];simp only [yV];rw [zP ⟨O,a⟩];simp
theorem Zw (z:Vl) (E:b<=1000000) (C:a<=r.length):EN prog 215 [.sl false [aw z],I b] r a λf g=>f= .m true r.length 0 0 b 4/\g=r++[.aY 0 4 ((List.replicate b z).map aw)]:=by
 apply EW.o Rf;have M:u64.wrap 1=1:=Y;have N:u64.wrap (b:Int)=b:=FJ O O;have P:i64.wrap (b:Int)=b:=bW O O;have j:=zX C;have o:=λl=>Pu (l:=l) (s:=r) E;simp [vz] at o;have J:=λk=>by have:=BD (List.replicate k z);simpa using this
 simp [Tz,zB (show ¬(b:Int)<0 by omega),M,N,CP.q (Zt (n:=b) O),zB (show ¬(9223372036854775807:Int)<b by omega),P,o];by_cases p:b=0;subst p;have tc:∀l,lC 4 a (.m true r.length 0 0 0 4) (.sl false [[U z.k,I z.n,I z.re,I z.im]]) l (r++[TO.aY 0 4 []])=some (I 0,l,r++[TO.aY 0 4 []]):=λl=>by simp [lC,Fy]
 simp [tc];refine LP.ind (λ_:Unit=>0) (λ_=>True) (λ_=>[.m true r.length 0 0 0 4,I (0:Nat)]) (λ_=>[]) (λ_=>r++[TO.aY 0 4 []]) 0 (λ_ _=>⟨rfl,rfl,rfl⟩) (λb1 m k n=>?_) () trivial;simp [nN,fW gT,vg];have tc:=λl=>y8 (s:=r++[.aY 0 4 (List.replicate b (aw vz))]) (l:=l) (az:=0) (off:=0) (n:=b) (y:=.sl false [aw z]) (es:=List.replicate b (aw vz)) rfl rfl (BD [z]) O Z Z j W;have D:min 1 b=1:=O;simp [D,vz] at tc;simp [tc];have K:∀d:Nat,1<=d->d<=b->∀i,i=r++[TO.aY 0 4 (List.replicate d (aw z)++List.replicate (b-d) (aw vz))]->LP prog a (RW λf g=>f= .m true r.length 0 0 b 4/\g=r++[TO.aY 0 4 (List.replicate b (aw z))]) [7,8] (λk=>a2 (nN k)) [.m true r.length 0 0 b 4,I d] [] i:=by
  intro d t v i F;subst F;refine LP.ind (λd:Nat=>b-d) (λd=>1<=d/\d<=b) (λd=>[.m true r.length 0 0 b 4,I d]) (λ_=>[]) (λd=>r++[TO.aY 0 4 (List.replicate d (aw z)++List.replicate (b-d) (aw vz))]) 0 (λ_ _=>⟨rfl,rfl,rfl⟩) (λd m k n=>?_) d ⟨t,v⟩;have ⟨q,s⟩:=m;simp [nN,fW gT];apply ST.dc<;>intro h;have a1:=λl=>IA (id:=r.length) (az:=0) (off:=0) (l:=l) (s:=r++[TO.aY 0 4 (List.replicate d (aw z)++List.replicate (b-d) (aw vz))]) (es:=List.replicate d (aw z)++List.replicate (b-d) (aw vz)) q h Z;have a2:=λl=>CW (bp:=d) (n:=b) (id:=r.length) (az:=0) (off:=0) (sz:=4) (l:=l) (s:=r++[TO.aY 0 4 (List.replicate d (aw z)++List.replicate (b-d) (aw vz))]) s;have L:∀l,aO l (r++[TO.aY 0 4 (List.replicate d (aw z)++List.replicate (b-d) (aw vz))]) (.m true r.length 0 0 d 4)=some (List.replicate d (aw z)):=λl=>by rw [fX,zO O];have:(r++[TO.aY 0 4 (List.replicate d (aw z)++List.replicate (b-d) (aw vz))])[r.length]? =some (TO.aY 0 4 (List.replicate d (aw z)++List.replicate (b-d) (aw vz))):=Z;rw [this,iR,zP ⟨rfl,rfl,Z⟩];rw [wG,xP Z,yC Z]
  have w:min d (b-d)≠0:=O;have a3:=λl=>y8 (s:=r++[TO.aY 0 4 (List.replicate d (aw z)++List.replicate (b-d) (aw vz))]) (l:=l) (fl:=a) (id:=r.length) (az:=0) (off:=0+d) (n:=b-d) (e:=4) (es:=List.replicate d (aw z)++List.replicate (b-d) (aw vz)) (L l) rfl (J d) O Z (by rw [xB,wM,wM];omega) j (Zs w);obtain ⟨c,x⟩:∃c,c=min d (b-d):=⟨_,rfl⟩;have X:d+c<=b:=O;have A:(List.replicate d (aw z)++List.replicate (b-d) (aw vz)).take (0+d)++((List.replicate d (aw z)).take c++(List.replicate d (aw z)++List.replicate (b-d) (aw vz)).drop (0+d+c))=List.replicate (d+c) (aw z)++List.replicate (b-(d+c)) (aw vz):=by rw [yZ,xP Z,yC Z,List.take_replicate,List.drop_append,List.drop_replicate,List.drop_replicate,wM];rw [show min c d=c by omega,show d-(d+c)=0 by omega,show d+c-d=c by omega,show b-d-c=b-(d+c) by omega];rw [<-List.append_assoc,List.replicate_append_replicate];simp
  simp only [wM,<-x,A] at a3;have H:(r++[TO.aY 0 4 (List.replicate d (aw z)++List.replicate (b-d) (aw vz))]).set r.length (TO.aY 0 4 (List.replicate (d+c) (aw z)++List.replicate (b-(d+c)) (aw vz)))=r++[TO.aY 0 4 (List.replicate (d+c) (aw z)++List.replicate (b-(d+c)) (aw vz))]:=by rw [List.set_append_right _ _ (zC _)];simp
  have R:i64.wrap ((d:Int)+c)=((d+c:Nat):Int):=by rw [bW O O];omega
  simp only [H] at a3;simp only [WV,a0N,a0M,nI,a1,a2,bd,WW,FA,a3,WY,WX,Kb,R];exact n (d+c) _ _ _ rfl rfl rfl ⟨O,O⟩ O;have:d=b:=by omega
  subst this;simp [vg]
 have:=K 1 O O (r++[TO.aY 0 4 ([U z.k,I z.n,I z.re,I z.im]::List.replicate (b-1) [U 0,I 0,I 0,I 0])]) (by simp [vz]);rw [List.map_replicate];simpa using this
def sX (a:Int) (n:Nat) (z:Vl):Ob:=⟨7,a,⟨#[]⟩,List.replicate n z⟩
theorem ZM (H:Hp) (a:Int) (n:Nat) (z:Vl) (P:0<=a) (E:n<=1000000):∃(x:Hp) (w:Vl) (J:Nat),∀(A:Lay) (s:ae) (b d:Nat),HR A s b H->dA d A s->d<=s.length->EN prog 186 [.p true (A.id bY) 0,I a,I n,.ag (aw z)] s d (WO H x w J d A s b):=by
 refine ⟨H.add (sX a n z),Vc (sX a n z) H.aD.length (by simp [sX]),H.cells+(sX a n z).size,λA s b d h f o=>EW.o RE ?_⟩;have ⟨b2,b6⟩:=h.no H.aD.length (zC _);have ⟨L,lv,m,M⟩:=h.hp;have N:=h.ce;have X:=h.rm;have t:i64.wrap ((b:Int)-H.cells)=(b:Int)-H.cells:=bW O O;have b1:(sX a n z).size=1+n:=by simp [sX,Ob.size]
 have k:=zB (show ¬a<0 by omega);have l:=zB (show ¬(n:Int)<0 by omega);by_cases p:H.cells+(sX a n z).size<=b;have e3:=zB (show ¬(b:Int)-H.cells<=n by omega);have c:=Zw z E o;simp [MK,cw dZ,k,l,m,t,e3];simp at c;refine CL.o c λr s1 ⟨g,i⟩=>?_;subst g;subst i;have j:bQ d (· =dn H.aD.length) A (A.new (dn H.aD.length) s.length) s (s++[.aY 0 4 ((sX a n z).bA.map aw)]):=bQ.new f o;have y:=h.JW (λe=>by cases e) f j λr R=>by by_cases e:r=dn H.aD.length;exact .inr ⟨rfl,e⟩;exact .inl e
 have C:(A.new (dn H.aD.length) s.length).al (dn H.aD.length):=by simp [Lay.new]
 have hid:(A.new (dn H.aD.length) s.length).id (dn H.aD.length)=s.length:=by simp [Lay.new]
 have q:(A.new (dn H.aD.length) s.length).az (dn H.aD.length)=0:=by simp [Lay.new]
 have D:(A.new (dn H.aD.length) s.length).id bY=A.id bY:=by simp [Lay.new]
 have F:mh (A.new (dn H.aD.length) s.length) (dn H.aD.length) (sX a n z).bA.length 4 (.m true s.length 0 0 n 4):=.inl ⟨C,by rw [hid,q];simp [sX]⟩;have c:=yn (sX a n z) y j.ij W ⟨.inr (.inr rfl),λe=>by simp [sX] at e⟩ (by simp [sX]) F (λ_=>by rw [hid,q];simp) (λe=>by simp [sX] at e) (by simp [sX];omega) p;rw [D] at c;simp [sX] at c;simp;refine CL.o c λr s' ⟨g,v,i,K⟩=>?_;subst g;simp;exact .inl ⟨p,rfl,v,i,(j.mono λr e=>by rw [e];simp [Rh]).trans (by simpa [sX] using K.mono λr=>wW.rh)⟩;have e3:=zL (show (b:Int)-H.cells<=n by omega);simp [MK,cw dZ,k,l,m,t,e3];exact .inr ⟨O,rfl,A,h,.refl f⟩
section
variable {A D:Lay} {J h:ae} {E fl:Nat} {H H':Hp} {v:Vl}
def Hp.put (H:Hp) (j n:Nat) (x:Vl):Hp:={H with aD:=H.aD.modify j λo=>{o with bA:=o.bA.set n x}}
theorem jZ {L:List Ob} {x:Vl} {o:Ob} (h:(L.modify a λo=>{o with bA:=o.bA.set b x})[c]? =some o):∃d,L[c]? =some d/\o.kind=d.kind/\o.of=d.of/\o.text=d.text/\o.bA.length=d.bA.length/\(c≠a->o=d)/\(c=a->o.bA=d.bA.set b x):=by
 rw [List.getElem?_modify] at h;by_cases e:a=c;subst e;cases f:L[a]? with
 | none=>simp [f] at h
 | some d=>simp [f] at h;subst h;exact ⟨d,rfl,rfl,rfl,rfl,Z,λh=>absurd rfl h,λ_=>rfl⟩
 cases f:L[c]? with
 | none=>simp [f,e] at h
 | some d=>simp [f,e] at h;subst h;exact ⟨d,rfl,rfl,rfl,rfl,rfl,λ_=>rfl,λh=>absurd h.symm e⟩
theorem Ao (L:List Ob) (j n:Nat) (x:Vl):(L.modify j λo=>{o with bA:=o.bA.set n x}).map Ob.size=L.map Ob.size:=by apply xF;intro i;simp only [zJ,List.getElem?_modify];by_cases e:j=i;cases L[i]? <;> simp [e,Ob.size];cases L[i]? <;> simp [e]
theorem mS.put {j n:Nat} {x:Vl} {o:Ob} (h:HR A J E H) (c:dA fl A J) (L:H.aD[j]? =some o) (R:o.kind≠3) (b:A.al (dn j)):HR A (J.set (A.id (dn j)) (.aY (A.az (dn j)) 4 ((o.bA.set n x).map aw))) E (H.put j n x):=by
 obtain ⟨r,M,D,F⟩:=h.hp;have m:(H.put j n x).aD.length=H.aD.length:=by simp [Hp.put]
 refine ⟨⟨r,M,by rw [c.aX r b Z];exact D,by rw [m];exact F⟩,λe=>by rw [c.aX e b Z,m];exact h.hl e,λi w f=>?_,λi w f s=>?_,λi t=>by rw [m] at t;have:=h.no i t;rw [m];exact this,h.rm,h.ce,?_,λw f=>?_⟩;obtain ⟨g,a,k,p,q,l,_⟩:=jZ f;obtain ⟨C,vv,N,P⟩:=h.ob i g a;exact ⟨C,vv,by rw [c.aX C b Z,k,p,q];exact N,by rw [l];exact P⟩;obtain ⟨g,a,k,p,q,l,y,z⟩:=jZ f;by_cases e:i=j;subst e;rw [L] at a;cases a;rw [c.get_eq b,z rfl];rw [c.aX s b W,y e];exact h.vs i g a s;exact (yH List.sum (Ao H.aD j n x)).trans h.su;obtain ⟨i,K⟩:=List.mem_iff_getElem?.1 f;obtain ⟨g,a,k,p,q,l,y,z⟩:=jZ K;have:=h.ok g (zI a);refine ⟨by rw [k];exact this.kd,λe=>?_⟩;rw [k] at e;have:=this.st e;rw [this] at l;exact zK l
theorem a04 (H:Hp) (v:Vl) (i:Int) (x:Vl):∃(H':Hp) (t:Int),(t=0\/t=2\/t=3)/\∀(A:Lay) (J:ae) (E fl:Nat),HR A J E H->dA fl A J->EN prog 141 [.p true (A.id bY) 0,.ag (aw v),I i,.ag (aw x)] J fl λr h=>r=U t/\∃D,HR D h E H'/\bQ fl Rh A D J h:=by
 cases k:H.at v with
 | none=>refine ⟨H,3,.inr (.inr rfl),λA J E fl a b=>EW.o EE ?_⟩;have c:=rN (fl:=fl) (v:=v) a;rw [k] at c;simp at c;simp [AW,CL.q c,ql,lE];exact ⟨A,a,.refl b⟩
 | some j=>
  have ⟨o,m,P,o3⟩:=Hp.iy k;by_cases f:v.k=3;refine ⟨H,3,.inr (.inr rfl),λA J E fl a b=>EW.o EE ?_⟩;have c:=rN (fl:=fl) (v:=v) a;rw [k] at c;simp at c;simp [AW,CL.q c,ql,cw iV,zL f];exact ⟨A,a,.refl b⟩;by_cases X:i<0\/(o.bA.length:Int)<=i;refine ⟨H,2,.inr (.inl rfl),λA J E fl a b=>EW.o EE ?_⟩;have c:=rN (fl:=fl) (v:=v) a;rw [k] at c;simp at c;have ⟨R,vv,p,q⟩:=a.ob j o m;have C:=λl=>(q.eO (s:=J) (l:=l) gT).2;by_cases s:i<0;simp [AW,CL.q c,ql,cw iV,zB f,zL s];exact ⟨A,a,.refl b⟩;simp [AW,CL.q c,ql,cw iV,zB f,zB s,p,C,zL (show (o.bA.length:Int)<=i by omega)];exact ⟨A,a,.refl b⟩;obtain ⟨n,L⟩:∃n:Nat,i=n:=⟨i.toNat,O⟩;subst L;refine ⟨H.put j n x,0,.inl rfl,λA J E fl a b=>EW.o EE ?_⟩;have c:=rN (fl:=fl) (v:=v) a;rw [k] at c;simp at c;have ⟨R,vv,p,q⟩:=a.ob j o m;have K:n<o.bA.length:=O;have d:A.al (dn j)/\vv= .m true (A.id (dn j)) (A.az (dn j)) 0 o.bA.length 4:=by rcases q with e|⟨_,e,_⟩;exact e;omega
  obtain ⟨d,rfl⟩:=d;have g:=a.vs j o m d;have z:=b.lo _ d;have F:=λl=>fW (r:=true) (id:=A.id (dn j)) (az:=A.az (dn j)) (off:=0) (n:=o.bA.length) (sz:=4) (l:=l) (s:=J) gT;obtain ⟨w,N⟩:∃w,o.bA[n]? =some w:=⟨_,zA K⟩;have M:(n:Int)<o.bA.length:=O;have y:=a.put (n:=n) (x:=x) b m (λe=>f (by rw [<-P];exact e)) d;simp [AW,CL.q c,ql,cw iV,zB f,zB (show ¬(n:Int)<0 by omega),p,F,zB (show ¬(o.bA.length:Int)<=n by omega),M,g,N,z];rw [yJ] at y;exact ⟨A,y,(bQ.set b d).mono λr e=>by rw [e];simp [Rh]⟩
theorem m42 (b:HR A J E H):EN prog 42 [.p true (A.id bY) 0] J fl λr h=>r=I (H.cells:Int)/\h=J:=by apply EN.o e42;have ⟨_,d,a,c⟩:=b.hp;simp [b42,cw dZ,a]
@[simp] def s8 (o:Ob):ao:=[U o.kind,I o.of,.v (.string o.text),.sl false (o.bA.map aw)]
theorem obZ (L:List Ob):cR 0 4 (L.map s8):=bD (λx=>rfl) L
theorem Px {a:List Vl} (b:aO [] J x=some (a.map aw)) (c:a.length<=1000000000000) (d:Fy x=false:=by rfl):EN prog 25 [x] J fl λr h=>r= .sl false (a.map aw)/\h=J:=by
 cases a with
 | nil=>exact Ends.iN (f:=bI 4 32 0) Y Y (by simp [bI,b,d]) ⟨rfl,rfl⟩
 | cons v L=>
  have e:fits (L.length+1) 32:=by unfold fits;exact decide_eq_true ⟨by simp at c;omega,by simp at c;omega⟩
  refine Ends.iN (f:=bI 4 32 0) Y Y ?_ ⟨rfl,rfl⟩;unfold bI;simp only [b,d,xA,if_false,yS];rw [fB b];simp [vlZ,e,db]
theorem mS.elems (h:HR A J E H) {o:Ob} (d:H.aD[a]? =some o) {vv:TV} (f:mh A (dn a) o.bA.length 4 vv) (l:ae):aO l J vv=some (o.bA.map aw)/\aO l J (bw vv)=some (o.bA.map aw):=by
 rcases f with ⟨b,rfl⟩|⟨b,c,i,rfl⟩;have g:=h.vs a o d b;have:aO l J (.m true (A.id (dn a)) (A.az (dn a)) 0 o.bA.length 4)=some (o.bA.map aw):=by rw [fX];split;rename_i e;rw [zK e];rfl;rw [g,iR,zP ⟨rfl,rfl,Z⟩,wG,yC Z]
 exact ⟨this,this⟩;rw [zK c];exact ⟨rfl,rfl⟩
theorem m41 (a:HR A J E H):EN prog 41 [.p true (A.id bY) 0] J fl λr h=>r= .sl false (H.aD.map s8)/\h=J:=by
 apply EN.o e41;have ⟨_,m,w,g⟩:=a.hp;have b1:=a.len;have F:=λl=>(g.eO (s:=J) (l:=l) qN).2;simp [b41,cw dZ,w,F];refine LP.ind (λj:Nat=>H.aD.length-j) (λj=>j<=H.aD.length) (λj=>[.sl true ((H.aD.take j).map s8),bw m,I H.aD.length,I j]) (λ_=>[]) (λ_=>J) 0 (λj z=>⟨rfl,rfl,?_⟩) (λj z b2 D=>?_) 0 O;rcases g with ⟨_,rfl⟩|⟨_,_,rfl⟩ <;> simp;simp [C5];apply ST.dc<;>intro d;have d:j<H.aD.length:=by omega
 obtain ⟨o,e⟩:∃o,H.aD[j]? =some o:=⟨_,zA d⟩;have ⟨x1,vv,L,f⟩:=a.ob j o e;have i:m= .m true (A.id eJ) (A.az eJ) 0 H.aD.length 1/\A.al eJ:=by rcases g with ⟨p,k⟩|⟨_,k,_⟩;exact ⟨k,p⟩;omega
 have x:=a.hl i.2;have y:(qn A H.aD.length)[j]? =some [.p true (A.id (gK j)) 0]:=by unfold qn;rw [zJ,xL d];rfl
 have c:=Px (fl:=J.length) ((a.elems e f []).2) (Zo (a.JR e)) (by rcases f with ⟨_,rfl⟩|⟨_,_,_,rfl⟩ <;> rfl);have ⟨M,P,q,s,t,R,v,X,f9,N⟩:=f.nf;have K:bO [bw vv]:=by rcases f with ⟨_,rfl⟩|⟨_,_,_,rfl⟩ <;> rfl
 have n:=λfl l J=>dO (fl:=fl) (l:=l) (s:=J) (o:=true) (b:=56) obZ O O (H.aD.take j) [o] W;simp at n;have C:(j:Int)<H.aD.length:=O;simp [i.1,C,x,y,L,q,s,t,v,CL.eq c K,n,wn (j:=j) O];refine D (j+1) _ _ _ ?_ rfl rfl O O;rw [xD,e];simp [i.1];have:j=H.aD.length:=by omega
 subst this;simp [J8]
end
def nJ (H f:Hp) (w:Vl) (t:Int) (g:Bool) (e d:Nat) (A:Lay) (s:ae) (b:Nat) (r:TV) (c:ae):Prop:=
 (e<=b/\r= .tu [.ag (aw w),U t,B g]/\∃a,HR a c b f/\bQ d Rh A a s c)\/(b<e/\r= .tu [.ag (aw vz),U 4,B true]/\∃a,HR a c b H/\bQ d Rh A a s c)
def OP (K:Nat) (H:Hp) (f:Lay->ao):Prop:=∃(c:Hp) (w:Vl) (t:Int) (e:Bool) (d:Nat),0<=t/\t<=6/\∀(A:Lay) (s:ae) (b a:Nat),HR A s b H->dA a A s->a<=s.length->EN prog K (f A) s a (nJ H c w t e d a A s b)
def zj (H:Hp):Prop:=∀(j:Nat) (o:Ob),H.aD[j]? =some o->o.kind=3->o.text.size<=8000000
section
variable {A:Lay} {J:ae} {D fl:Nat} {H:Hp}
theorem mS.hok (h:mS q A J D H):zj H:=λ_ _ a b=>h.Om a b
theorem nJ.pure {w:Vl} (h:HR A J D H) (a:dA fl A J):nJ H H w i q 0 fl A J D (.tu [.ag (aw w),U i,B q]) J:=.inl ⟨zY _,rfl,A,h,.refl a⟩
theorem KU (H:Hp) (b:aU) (f:b.size<=100000000):OP 176 H λA=>[.p true (A.id bY) 0,.v (.string b)]:=by have ⟨e,w,k,c⟩:=m91 H b f;refine ⟨e,w,0,true,k,O,O,λA J D fl h i g=>EW.o RN ?_⟩;simp [U3];refine CL.o (c A J D fl h i g) λr l j=>?_;rcases j with ⟨a,rfl,d⟩|⟨a,rfl,d⟩;simp;exact .inl ⟨a,rfl,d⟩;simp [vz];exact .inr ⟨a,rfl,d⟩
theorem Hp.nu (d:zj H) {v:Vl} {b:aU} (h:H.text v=some b):b.size<=8000000:=by unfold Hp.text at h;split at h;cases h;decide;split at h;rename_i i e;obtain ⟨o,a,f,_⟩:=Hp.iy e;split at h;rename_i c;rw [a] at h;cases h;exact d _ _ a (f.trans c);cases h;cases h
@[simp] theorem a1q (a b:Bool):cm prog .eql 4 (.v (.bool a)) (.v (.bool b))=some (B (decide (a=b))):=by have h:prog.underlying 4=some .bool:=Y;exact cy (by cases a <;> rfl) (by cases b <;> rfl) (Mw 4 a b h)
theorem a07 (hC:JI) (M:zj H) (o:Int) (a b:Vl):OP 133 H λA=>[.p true (A.id bY) 0,I o,.ag (aw a),.ag (aw b)]:=by
 have ⟨m,g⟩:=PI a;have ⟨rb,i⟩:=PI b;simp at g i;cases l:m&&rb with
 | true=>rw [zN] at l;obtain ⟨rfl,rfl⟩:=l;by_cases j:a.k=b.k;by_cases N:a.n=b.n;have ⟨w,f,c⟩:=Ay o true;refine ⟨H,w,0,f,0,O,O,λA J D fl h d k=>EW.o mK ?_⟩;simp at c;simp [mN,CP.q g,CP.q i,zL j,zL N,CP.q c];exact nJ.pure h d;have ⟨w,f,c⟩:=Ay o (decide (a.k=5));refine ⟨H,w,0,f,0,O,O,λA J D fl h d k=>EW.o mK ?_⟩;simp at c;simp [mN,CP.q g,CP.q i,zL j,zB N];simp [CP.q c];exact nJ.pure h d;have ⟨w,f,c⟩:=Ay o false;refine ⟨H,w,0,f,0,O,O,λA J D fl h d k=>EW.o mK ?_⟩;simp at c;simp [mN,CP.q g,CP.q i,zB j,CP.q c];exact nJ.pure h d
 | false=>
  have start:∀(A:Lay) (J:ae) (D fl:Nat) (L:Hp) (w:Vl) (t:Int) (f:Bool) (b1:Nat),True:=λ_ _ _ _ _ _ _ _ _=>trivial;by_cases j:a.k=b.k;by_cases n:a.k=1;have ⟨w,t,f,ht,c⟩:=ZS o a.n b.n (a.ok n);refine ⟨H,w,t,f,0,O,O,λA J D fl h d k=>EW.o mK ?_⟩;simp at c;cases m <;> cases rb <;> first|(cases l;done)|(simp [mN,CP.q g,CP.q i,zL j,zL n,CP.q c];exact nJ.pure h d)
  by_cases r:a.k=2;obtain ⟨x,X⟩:∃x,decide (a.n=0)=x:=⟨_,rfl⟩;obtain ⟨y,hy⟩:∃y,decide (b.n=0)=y:=⟨_,rfl⟩;have ⟨w,f,c⟩:=Ay o (decide (x=y));refine ⟨H,w,0,f,0,O,O,λA J D fl h d k=>EW.o mK ?_⟩;simp at c;have b2:∀p q:Bool,((!p)= !q)=(p=q):=λp q=>by cases p <;> cases q <;> simp
  cases m <;> cases rb <;> first|(cases l;done)|(simp [mN,CP.q g,CP.q i,zL j,zB n,zL r,X,hy,b2,CP.q c];exact nJ.pure h d)
  by_cases s:a.k=4;have ⟨p,q,k1,_⟩:=Az a;have ⟨p',q',k2,_⟩:=Az b;have ⟨w,f,c⟩:=ZR hC o p q p' q';refine ⟨H,w,0,f,0,O,O,λA J D fl h d k=>EW.o mK ?_⟩;simp at c k1 k2;cases m <;> cases rb <;> first|(cases l;done)|(simp [mN,CP.q g,CP.q i,zL j,zB n,zB r,zL s,CP.q k1,CP.q k2,CP.q c];exact nJ.pure h d)
  by_cases z:a.k=3;have c1:=λ(A:Lay) (J:ae) (D fl:Nat) (h:HR A J D H)=>Ax (fl:=fl) (v:=a) h;have e:=λ(A:Lay) (J:ae) (D fl:Nat) (h:HR A J D H)=>Ax (fl:=fl) (v:=b) h;simp at c1 e;cases C:H.text a with
  | none=>refine ⟨H,vz,0,false,0,O,O,λA J D fl h d k=>EW.o mK ?_⟩;have c1:=c1 A J D fl h;have e:=e A J D fl h;rw [C] at c1;cases m <;> cases rb <;> first|(cases l;done)|(simp [mN,CP.q g,CP.q i,zL j,zB n,zB r,zB s,zL z,CL.q c1,CL.q e];exact nJ.pure h d)
  | some x=>
   cases E:H.text b with
   | none=>refine ⟨H,vz,0,false,0,O,O,λA J D fl h d k=>EW.o mK ?_⟩;have c1:=c1 A J D fl h;have e:=e A J D fl h;rw [C] at c1;rw [E] at e;cases m <;> cases rb <;> first|(cases l;done)|(simp [mN,CP.q g,CP.q i,zL j,zB n,zB r,zB s,zL z,CL.q c1,CL.q e];exact nJ.pure h d)
   | some y=>
    have X:=Hp.nu M C;have hy:=Hp.nu M E;by_cases R:o=1;have b6:(x++y).size<=100000000:=by rw [yY];omega
    have ⟨L,w,t,f,b1,t0,t1,c⟩:=KU H (x++y) b6;have tc:=iZ (P:=prog) (t:=9) x y O;refine ⟨L,w,t,f,b1,t0,t1,λA J D fl h d k=>EW.o mK ?_⟩;have c1:=c1 A J D fl h;have e:=e A J D fl h;rw [C] at c1;rw [E] at e;have c:=c A J D fl h d k;cases m <;> cases rb <;> first|(cases l;done)|(simp [mN,CP.q g,CP.q i,zL j,zB n,zB r,zB s,zL z,CL.q c1,CL.q e,zL R,tc];refine CL.o c λc3 s' hq=>?_;rcases hq with ⟨F,rfl,K⟩|⟨F,rfl,K⟩ <;> simp <;> first|exact .inl ⟨F,rfl,K⟩|exact .inr ⟨F,rfl,K⟩)
    have ⟨w,f,c⟩:=Ay o (decide (x=y));refine ⟨H,w,0,f,0,O,O,λA J D fl h d k=>EW.o mK ?_⟩;have c1:=c1 A J D fl h;have e:=e A J D fl h;rw [C] at c1;rw [E] at e;simp at c;cases m <;> cases rb <;> first|(cases l;done)|(simp [mN,CP.q g,CP.q i,zL j,zB n,zB r,zB s,zL z,CL.q c1,CL.q e,zB R];simp [CP.q c];exact nJ.pure h d)
  refine ⟨H,vz,0,false,0,O,O,λA J D fl h d k=>EW.o mK ?_⟩;cases m <;> cases rb <;> first|(cases l;done)|(simp [mN,CP.q g,CP.q i,zL j,zB n,zB r,zB s,zB z];exact nJ.pure h d)
  refine ⟨H,vz,0,false,0,O,O,λA J D fl h d k=>EW.o mK ?_⟩;cases m <;> cases rb <;> first|(cases l;done)|(simp [mN,CP.q g,CP.q i,zB j];exact nJ.pure h d)
structure kz:Prop where
 cx:JI
 tx:∀n:Int,-9223372036854775808<=n->∃t:aU,t.size<=100/\EP prog 211 [I n] (· = .v (.string t))
 gx:∀a b:Int,∃t:aU,t.size<=300/\EP prog 213 [nG a b] (· = .v (.string t))
theorem Zy (b:Bool):∃t:aU,t.size<=100/\EP prog 212 [B b] (· = .v (.string t)):=by
 have c:EP prog 221 [B b] (· = .v (.string (bif b then ⟨#[116,114,117,101]⟩ else ⟨#[102,97,108,115,101]⟩))):=by refine EP.o LR λJ Q a=>?_;cases b <;> simp [MF] <;> exact a _ rfl
 refine ⟨bif b then ⟨#[116,114,117,101]⟩ else ⟨#[102,97,108,115,101]⟩,?_,EP.o LS λJ Q a=>?_⟩;rotate_left;simp [MH,CP.q c];exact a _ rfl;cases b <;> decide
theorem nJ.via {b:Hp} {w:Vl} (h:nJ H b w i q a fl A J D x r):∃(e:Vl) (d:Int) (c:Bool),x= .tu [.ag (aw e),U d,B c]:=by rcases h with ⟨_,h,_⟩|⟨_,h,_⟩ <;> exact ⟨_,_,_,h⟩
theorem ZQ (H:Hp) (v:Vl):OP 178 H λA=>[.p true (A.id bY) 0,.ag (aw v)]:=by
 have c1:=λ(A:Lay) (J:ae) (D fl:Nat) (h:HR A J D H)=>Aw (fl:=fl) (v:=v) h;have p:=λ(n:Int) (h:-9223372036854775808<=n)=>Hn n h;simp at c1 p;have q:(H.sz v).2=0\/(H.sz v).2=3:=by unfold Hp.sz;split;exact .inl rfl;split;split;exact .inl rfl;exact .inr rfl;exact .inr rfl
 have o:-9223372036854775808<=(H.sz v).1:=by unfold Hp.sz;split;simp;split;split;simp only;split <;> omega;simp;simp
 by_cases f:v.k=5;refine ⟨H,vz,3,true,0,O,O,λA J D fl h e l=>EN.mono (k:=λr a=>r= .tu [.ag (aw vz),U 3,B true]/\a=J) (EN.o EC ?_) λr a ⟨c,d⟩=>by subst c;subst d;exact nJ.pure h e⟩;simp [vZ,zL f,vz];by_cases j:v.k=3\/v.k=7;rcases q with g|g;refine ⟨H,lu (H.sz v).1 o,0,true,0,O,O,λA J D fl h e l=>EN.mono (k:=λr a=>r= .tu [.ag (aw (lu (H.sz v).1 o)),U 0,B true]/\a=J) (EN.o EC ?_) λr a ⟨c,d⟩=>by subst c;subst d;exact nJ.pure h e⟩;have c1:=c1 A J D J.length h;have m:=p _ o;by_cases b:v.k=3;simp [vZ,zB f,zL b,CL.q c1,g,CP.q m];have i:v.k=7:=by rcases j with h|h;exact absurd h b;exact h
 simp [vZ,zB f,zB b,zL i,CL.q c1,g,CP.q m];refine ⟨H,vz,3,true,0,O,O,λA J D fl h e l=>EN.mono (k:=λr a=>r= .tu [.ag (aw vz),U 3,B true]/\a=J) (EN.o EC ?_) λr a ⟨c,d⟩=>by subst c;subst d;exact nJ.pure h e⟩;have c1:=c1 A J D J.length h;by_cases b:v.k=3;simp [vZ,zB f,zL b,CL.q c1,g,vz];have i:v.k=7:=by rcases j with h|h;exact absurd h b;exact h
 simp [vZ,zB f,zB b,zL i,CL.q c1,g,vz];have b:=λh=>j (.inl h);have i:=λh=>j (.inr h);refine ⟨H,vz,0,false,0,O,O,λA J D fl h e l=>EN.mono (k:=λr a=>r= .tu [.ag (aw vz),U 0,B false]/\a=J) (EN.o EC ?_) λr a ⟨c,d⟩=>by subst c;subst d;exact nJ.pure h e⟩;simp [vZ,zB f,zB b,zB i,vz]
theorem ZP (L:kz) (H:Hp) (v:Vl):OP 179 H λA=>[.p true (A.id bY) 0,.ag (aw v)]:=by
 have d:∀(t:aU),t.size<=300->(∀(A:Lay) (J:ae) (fl:Nat) (Q:jw),CL prog 176 [.p true (A.id bY) 0,.v (.string t)] fl (λk l J=>ex (X:=Xc prog fl (RW Q)) 0 k (λK=>ex 1 (ct 0 k) λM=>ex 2 (ct 1 (ct 0 k)) λN=>st 4 (.p false 1 0) K λ_=>lt true 4 (.p false 1 0) λBi=>rt (.tu [Bi,M,N])) l J) [.row (aw v) 0,.row (aw vz) 0] J->EN prog 179 [.p true (A.id bY) 0,.ag (aw v)] J fl Q)->OP 179 H λA=>[.p true (A.id bY) 0,.ag (aw v)]:=by intro t g x;have ⟨s,w,C,z,y,E,F,c⟩:=KU H t O;refine ⟨s,w,C,z,y,E,F,λA J D fl h f n=>x A J fl _ ?_⟩;refine CL.o (c A J D fl h f n) λr P a=>?_;rcases a with ⟨i,rfl,j⟩|⟨i,rfl,j⟩;simp [vz];exact .inl ⟨i,rfl,j⟩;simp [vz];exact .inr ⟨i,rfl,j⟩
 by_cases b:v.k=1;have ⟨t,g,c⟩:=L.tx v.n (v.ok b);refine d t O λA J fl Q a=>EW.o EB ?_;simp at a;simp [F6,zL b,CP.q c];exact a;by_cases e:v.k=2;have ⟨t,g,c⟩:=Zy (!decide (v.n=0));refine d t O λA J fl Q a=>EW.o EB ?_;simp at a c;simp [F6,zB b,zL e];simp [CP.q c];exact a;by_cases m:v.k=4;have ⟨p,q,o,_⟩:=Az v;have ⟨t,g,c⟩:=L.gx p q;refine d t O λA J fl Q a=>EW.o EB ?_;simp at a c;simp at o;simp [F6,zB b,zB e,zL m,CP.q o,CP.q c];exact a;refine ⟨H,vz,0,false,0,O,O,λA J D fl h f n=>EW.o EB ?_⟩;simp [F6,zB b,zB e,zB m];exact nJ.pure h f
end
def HM (x:Int):TV:=U x
def dg:Nat->List Int->Nat->Int->List Int×Nat
 | 0,b,a,_=>(b,a)
 | n+1,b,a,x=>if x.tdiv 10=0 then (b.set (a-1) (u8.wrap (i64.wrap (48-x.tmod 10))),a-1) else dg n (b.set (a-1) (u8.wrap (i64.wrap (48-x.tmod 10)))) (a-1) (x.tdiv 10)
def NG (b:List Int) (a:Nat):aU:=⟨((b.drop a).map λx=>UInt8.ofNat x.toNat).toArray⟩
theorem tby (L:List Int):cN (L.map λx=>[U x])=some (L.map λx=>UInt8.ofNat x.toNat):=by
 induction L with
 | nil=>rfl
 | cons a L b=>simp only [yS,cN,b,zM]
theorem Ya (x:Int) (m:Nat) (h:x.natAbs<10^(m+1)):(x.tdiv 10).natAbs<10^m:=by rw [Int.natAbs_tdiv,show (10:Int).natAbs=10 from rfl];rw [Nat.pow_succ] at h;exact Nat.div_lt_of_lt_mul O
theorem Cj {l s:ae} {b:List Int} (c:b.length=20) (k:a<20) (h:l[0]? =some (.row (b.map HM) 1)):aK prog 330 (some (I a)) none none l s (.p false 0 0)=some (.m false 0 0 a (20-a) 1)/\bJ prog 77 9 (.m false 0 0 a (20-a) 1) l s=some (.v (.string (NG b a))):=by
 have d:prog.underlying 330=some (.array 20 5):=Y;have f:me prog 5=some 1:=Y;have g:prog.underlying 77=some (.slice 5):=Y;have i:prog.underlying 9=some .string:=Y;have j:prog.underlying 5=some (.int .u8):=Y;constructor;unfold aK;simp only [d,f,zR,Vk,pC,T.ob,cond_false,h];simp [c];omega;unfold bJ;simp only [g,i,j,aO,T.ob,cond_false,h];have e:((b.map HM).drop a).take (20-a)=(b.drop a).map HM:=by rw [yC (by simp [c]),List.map_drop]
 rw [zO O,zP (by simp [c];omega),e,List.map_map];show ((cN ((b.drop a).map λx=>[U x])).map λbs=>TV.v (.string ⟨bs.toArray⟩))=_;rw [tby];rfl
theorem EP.uniq {P:aB} (h:EP P a o (· =x)) (d:EP P a o (· =y)):x=y:=by obtain ⟨n,r,i,e,rfl,_⟩:=h [] 0;obtain ⟨m,g,j,f,rfl,_⟩:=d [] 0;have c:=jG (Nat.le_max_left n m) a o [] 0 _ e;have b:=jG (Nat.le_max_right n m) a o [] 0 _ f;rw [c] at b;cases b;rfl
theorem Jq (n:Int) (hn:-9223372036854775808<=n):∃t:aU,(0<t.size/\t.size<=100)/\EP prog 211 [I n] (· = .v (.string t)):=by
 obtain ⟨e,A⟩:∃e,e=(if 0<n then i64.wrap (0-n) else n):=⟨_,rfl⟩;have hb:e.natAbs<10^19:=by have:=zp (0-n);have:=whi (0-n);rw [A];split <;> omega
 obtain ⟨R,J⟩:∃R,R=dg 20 (List.replicate 20 0) 20 e:=⟨_,rfl⟩;obtain ⟨t,f⟩:∃t,t=(if n<0 then NG (R.1.set (R.2-1) 45) (R.2-1) else NG R.1 R.2):=⟨_,rfl⟩;refine ⟨t,?_,EP.o Rj λs Q H=>?_⟩;have K:∀(c:List Int) (a:Nat),c.length=20->a<=19->0<(NG c a).size/\(NG c a).size<=100:=λc a h h2=>by
  have:(NG c a).size=20-a:=by show ((c.drop a).map λx=>UInt8.ofNat x.toNat).toArray.size=_;simp [h]
  omega
 have i:∀(m:Nat) (c:List Int) (a:Nat) (x:Int),c.length=20->(dg m c a x).1.length=20/\(dg m c a x).2<=a/\(1<=m->(dg m c a x).2<=a-1):=λm=>by
  induction m with
  | zero=>intro c a x h;exact ⟨h,zC _,λh=>O⟩
  | succ m ih=>intro c a x h;rw [dg];split;exact ⟨by simpa using h,Nat.sub_le _ _,λ_=>zC _⟩;have ⟨q1,q2,_⟩:=ih (c.set (a-1) (u8.wrap (i64.wrap (48-x.tmod 10)))) (a-1) (x.tdiv 10) (Zs h);exact ⟨q1,O,λ_=>q2⟩
 have ⟨M,_,N⟩:=J▸i 20 (List.replicate 20 0) 20 e Z;have N:=N O;rw [f];split;exact K _ _ (Zs M) O;exact K _ _ M O;have E:∀(x:TV),x=I e->LP prog s.length (RP Q s) [0,3,4,5] (λk=>a4 (qO k)) [I n,.p false 0 0,I 20,x] [.row NP 1] s:=by
  intro x z;subst z;refine LP.ind (λx:List Int×Nat×Int=>x.2.1) (λx=>x.1.length=20/\2<=x.2.1/\x.2.1<=20/\x.2.2.natAbs<10^(x.2.1-1)/\dg x.2.1 x.1 x.2.1 x.2.2=R) (λx=>[I n,.p false 0 0,I x.2.1,I x.2.2]) (λx=>[.row (x.1.map HM) 1]) (λ_=>s) 1 (λ_ _=>⟨rfl,rfl,rfl⟩) (λx z k hk=>?_) (List.replicate 20 0,20,e) ⟨rfl,Z,Z,hb,J.symm⟩;have ⟨c,b,y⟩:=x;have ⟨p,P,X,C,D⟩:=z;simp only at p P X C D;have w1:i64.wrap ((b:Int)-1)=((b-1:Nat):Int):=by rw [bW O O];omega
  have i:=Ya y (b-2) (by rw [show b-2+1=b-1 by omega];exact C);have hp:10^(b-2)<=10^18:=Nat.pow_le_pow_right O O;have w2:i64.wrap (y.tdiv 10)=y.tdiv 10:=bW O O;obtain ⟨w,L⟩:∃w,w=u8.wrap (i64.wrap (48-y.tmod 10)):=⟨_,rfl⟩;obtain ⟨d,r⟩:∃d,d=c.set (b-1) w:=⟨_,rfl⟩;have b6:(c.map HM).set (b-1) (U w)=d.map HM:=by rw [r,yJ];rfl
  have j:d.length=20:=by rw [r];simpa using p
  have g:(if y.tdiv 10=0 then (d,b-1) else dg (b-1) d (b-1) (y.tdiv 10))=R:=by rw [<-D,show b=(b-1)+1 by omega,dg,r,L];rfl
  simp [qO,w1,rj (show (10:Int)≠0 by omega),uZ (show (10:Int)≠0 by omega),show ((b-1:Nat):Int)<20 by omega,w2,p,<-L,b6,show b-1+1<=20 by omega];apply ST.mk<;>intro h;have q:=yB h;rw [zP q] at g;have b1:R.1=d:=by rw [<-g]
  have b2:R.2=b-1:=by rw [<-g]
  rw [b1,b2] at f;simp [Da];apply ST.mk<;>intro h;have v:=yB h;rw [zP v] at f;have w3:i64.wrap (((b-1:Nat):Int)-1)=((b-1-1:Nat):Int):=by rw [bW O O];omega
  have ⟨o,tc⟩:=Cj (l:=[.row ((d.set (b-1-1) 45).map HM) 1]) (s:=s) (Zs j) (show b-1-1<20 by omega) rfl;rw [yJ,show HM 45=U 45 from rfl] at o tc;simp [w3,show ((b-1-1:Nat):Int)<20 by omega,j,show b-1-1+1<=20 by omega,o,tc];exact H _ (Zr f);have v:=of_decide_eq_false h;rw [zO v] at f;have ⟨o,tc⟩:=Cj (l:=[.row (d.map HM) 1]) (s:=s) j (show b-1<20 by omega) rfl;simp [o,tc];exact H _ (Zr f);have q:=of_decide_eq_false h;rw [zO q] at g;have ha:3<=b:=by
   rcases zZ b 3 with F|F;have:b=2:=by omega
   subst this;rw [show (10:Nat)^(2-2)=1 from rfl] at i;omega;exact F
  refine hk (d,b-1,y.tdiv 10) _ _ _ rfl Z rfl ⟨j,W,W,by simpa [show b-1-1=b-2 by omega] using i,g⟩ W
 simp [TC];apply ST.mk<;>intro h;simp;exact E _ (by rw [A,zP (yB h)];simp);simp;exact E _ (by rw [A,zO (of_decide_eq_false h)])
theorem KT (n:Int) (a:-9223372036854775808<=n):∃t:aU,t.size<=100/\EP prog 211 [I n] (· = .v (.string t)):=by have ⟨t,h,c⟩:=Jq n a;exact ⟨t,h.2,c⟩
theorem Jp (a b:Int):∃t:aU,(0<t.size/\t.size<=300)/\EP prog 213 [nG a b] (· = .v (.string t)):=by
 have ⟨p,q,o,r,v⟩:=Hl a b;have ⟨c,x,c1⟩:=KT p O;have ⟨e,y,j⟩:=KT q O;obtain ⟨sg,d⟩:∃sg:aU,sg=if q<0 then ⟨#[]⟩ else ⟨#[43]⟩:=⟨_,rfl⟩
 have w:sg.size<=1:=by rw [d];split <;> decide
 have f:=iZ (P:=prog) (t:=9) c sg O;have l:(c++sg).size=c.size+sg.size:=yY;have g:=iZ (P:=prog) (t:=9) (c++sg) e O;have m:(c++sg++e).size=c.size+sg.size+e.size:=by rw [yY,l]
 have n:(⟨#[105]⟩:aU).size=1:=by decide
 have i:=iZ (P:=prog) (t:=9) (c++sg++e) ⟨#[105]⟩ O;refine ⟨c++sg++e++⟨#[105]⟩,by rw [yY,m,n];omega,EP.o Ri λs Q k=>?_⟩;simp [TB,CP.q o];apply ST.mk<;>intro h;rw [zP (yB h)] at d;rw [d] at f g i;simp [CP.q c1,CP.q j,f,g,i];exact k _ (by rw [d]);rw [zO (of_decide_eq_false h)] at d;rw [d] at f g i;simp [CP.q c1,CP.q j,f,g,i];exact k _ (by rw [d])
theorem Zx (a b:Int):∃t:aU,t.size<=300/\EP prog 213 [nG a b] (· = .v (.string t)):=by have ⟨t,h,c⟩:=Jp a b;exact ⟨t,h.2,c⟩
theorem leaf:kz:=⟨cxf,KT,Zx⟩
theorem K1 {t:aU} (b:-9223372036854775808<=i) (h:EP prog 211 [I i] (· = .v (.string t))):0<t.size:=by have ⟨d,a,c⟩:=Jq i b;cases EP.uniq h c;exact a.1
theorem LG {t:aU} (h:EP prog 213 [nG i j] (· = .v (.string t))):0<t.size:=by have ⟨b,a,c⟩:=Jp i j;cases EP.uniq h c;exact a.1
theorem PD (b:Bool):∃t:aU,(0<t.size/\t.size<=100)/\EP prog 212 [B b] (· = .v (.string t)):=by
 have c:EP prog 221 [B b] (· = .v (.string (bif b then ⟨#[116,114,117,101]⟩ else ⟨#[102,97,108,115,101]⟩))):=by refine EP.o LR λs Q a=>?_;cases b <;> simp [MF] <;> exact a _ rfl
 refine ⟨bif b then ⟨#[116,114,117,101]⟩ else ⟨#[102,97,108,115,101]⟩,?_,EP.o LS λs Q a=>?_⟩;rotate_left;simp [MH,CP.q c];exact a _ rfl;cases b <;> decide
end T
namespace T
open Go V Q
variable {a b c d e g:Nat} {u v w:Value} {i j k:Int} {t:TypeId} {p:List Value} {q:Bool} {n:IntKind} {x y z:TV} {r s:List TO} {o:List TV}
structure Fe where
 ins:List Int
 lX:List Int
 read:Nat
 drawn:Nat
abbrev ls:Ro:=(5,0)
structure FR (A:Lay) (s:ae) (F:Fe):Prop where
 al:A.al ls
 row:s[A.id ls]? =some (.row [.sl false (F.ins.map bt),.sl false (F.lX.map bt),I F.read,I F.drawn] 0)
 rl:F.read<=F.ins.length
 dl:F.drawn<=F.lX.length
 il:F.ins.length<=1000000
 ll:F.lX.length<=1000000
 iv:∀x∈F.ins,-9223372036854775808<=x
@[simp] theorem pZ:prog.underlying 76=some (.pointer 150):=Y
section
variable {A D:Lay} {J h:ae} {E fl:Nat} {F:Fe} {R:Ro->Prop}
theorem FR.tV (a:FR A J F) (c:NN R A D J h) (b:¬R ls):FR D h F:=by obtain ⟨a1,a2,a3⟩:=c.ag _ b;exact ⟨a3.trans a.al,by rw [a1,c.get _ a.al b];exact a.row,a.rl,a.dl,a.il,a.ll,a.iv⟩
theorem FR.jm (a:FR A J F) (c:dA fl A J) (d:bQ fl R A D J h) (b:¬R ls):FR D h F:=a.tV (d.tV c) b
theorem ZN (F:Fe):∃(f:Fe) (n:Int) (e:Bool),(e=true->(∀x∈F.ins,-9223372036854775808<=x)->-9223372036854775808<=n)/\∀(A:Lay) (J:ae) (fl:Nat),FR A J F->dA fl A J->EN prog 182 [.p true (A.id ls) 0] J fl λr h=>r= .tu [I n,B e]/\FR A h f/\bQ fl (· =ls) A A J h:=by by_cases i:F.read<F.ins.length;obtain ⟨n,d⟩:∃n,F.ins[F.read]? =some n:=⟨_,zA i⟩;refine ⟨{F with read:=F.read+1},n,true,λ_ k=>k n (zI d),λA J fl a b=>EW.o LV ?_⟩;have p:=a.il;have l:i64.wrap ((F.read:Int)+1)=(F.read:Int)+1:=bW O O;have m:i64.wrap (F.read:Int)=(F.read:Int):=bW O O;have j:=b.lo _ a.al;have g:=λx=>b.get_eq (o:=x) a.al;have c:¬(F.read:Int)=F.ins.length:=O;simp [ML,cw pZ,a.row,zB c,l,m,j,g,d];exact ⟨⟨a.al,by rw [b.get_eq a.al];simp,by simp only;omega,a.dl,a.il,a.ll,a.iv⟩,bQ.set b a.al⟩;refine ⟨F,0,false,Z,λA J fl a b=>EW.o LV ?_⟩;have q:=a.rl;have c:F.read=F.ins.length:=O;simp [ML,cw pZ,a.row,c];exact ⟨a,.refl b⟩
theorem ZO (F:Fe) (n:Int):∃(q:Fe) (d:Int) (t:Int),(t=0\/t=1\/t=6)/\(t=0->-9223372036854775808<=d)/\∀(A:Lay) (J:ae) (fl:Nat),FR A J F->dA fl A J->EN prog 181 [.p true (A.id ls) 0,I n] J fl λr h=>r= .tu [I d,U t]/\FR A h q/\bQ fl (· =ls) A A J h:=by by_cases e:n<1;refine ⟨F,0,1,.inr (.inl rfl),O,λA J fl b c=>EW.o EA ?_⟩;simp [F5,zL e];exact ⟨b,.refl c⟩;by_cases v:F.drawn<F.lX.length;obtain ⟨x,p⟩:∃x,F.lX[F.drawn]? =some x:=⟨_,zA v⟩;have m:n≠0:=O;have j:∀(A:Lay) (J:ae) (fl:Nat),FR A J F->dA fl A J->FR A (J.set (A.id ls) (.row [.sl false (F.ins.map bt),.sl false (F.lX.map bt),I F.read,I ((F.drawn:Int)+1)] 0)) {F with drawn:=F.drawn+1}:=λA J fl b c=>⟨b.al,by rw [c.get_eq b.al];simp,b.rl,by simp only;omega,b.il,b.ll,b.iv⟩;by_cases l:x.tmod n<0;refine ⟨{F with drawn:=F.drawn+1},i64.wrap (x.tmod n+n),0,.inl rfl,λ_=>zp _,λA J fl b c=>EW.o EA ?_⟩;have w:=b.ll;have i:i64.wrap ((F.drawn:Int)+1)=(F.drawn:Int)+1:=bW O O;have f:=c.lo _ b.al;have s:=λx=>c.get_eq (o:=x) b.al;have g:=rj (P:=prog) (t:=2) (k:=.i64) (a:=x) m;simp [F5,zB e,cw pZ,b.row,zB (show ¬(F.drawn:Int)=F.lX.length by omega),p,g,i,f,zL l];exact ⟨j A J fl b c,bQ.set c b.al⟩;refine ⟨{F with drawn:=F.drawn+1},x.tmod n,0,.inl rfl,λ_=>O,λA J fl b c=>EW.o EA ?_⟩;have w:=b.ll;have i:i64.wrap ((F.drawn:Int)+1)=(F.drawn:Int)+1:=bW O O;have f:=c.lo _ b.al;have s:=λx=>c.get_eq (o:=x) b.al;have g:=rj (P:=prog) (t:=2) (k:=.i64) (a:=x) m;simp [F5,zB e,cw pZ,b.row,zB (show ¬(F.drawn:Int)=F.lX.length by omega),p,g,i,f,zB l];exact ⟨j A J fl b c,bQ.set c b.al⟩;refine ⟨F,0,6,.inr (.inr rfl),O,λA J fl b c=>EW.o EA ?_⟩;have z:=b.dl;have y:F.drawn=F.lX.length:=O;simp [F5,zB e,cw pZ,b.row,y];exact ⟨b,.refl c⟩
theorem m43 (a:FR A J F):EN prog 43 [.p true (A.id ls) 0] J fl λr h=>r= .tu [I F.read,I F.drawn]/\h=J:=by apply EN.o e43;simp [b43,cw pZ,a.row]
def Be (r:Ro):Prop:=1<=r.1/\r.1<=5
def tY (H c:Hp) (F b:Fe) (w:Vl) (t:Int) (d:Bool) (a fl:Nat) (A:Lay) (J:ae) (E:Nat) (r:TV) (h:ae):Prop:=
 (a<=E/\r= .tu [.ag (aw w),U t,B d]/\∃D,HR D h E c/\FR D h b/\bQ fl Be A D J h)\/(E<a/\r= .tu [.ag (aw vz),U 4,B true]/\∃D,HR D h E H/\FR D h F/\bQ fl Be A D J h)
def OPf (K:Nat) (H:Hp) (F:Fe) (e:Lay->ao):Prop:=∃(b:Hp) (a:Fe) (w:Vl) (t:Int) (d:Bool) (c:Nat),0<=t/\t<=6/\∀(A:Lay) (J:ae) (E fl:Nat),HR A J E H->FR A J F->dA fl A J->fl<=J.length->EN prog K (e A) J fl (tY H b F a w t d c fl A J E)
theorem nJ.f {H g:Hp} {w:Vl} (b:nJ H g w i q a fl A J E x h) (j:FR A J F) (k:dA fl A J):tY H g F F w i q a fl A J E x h:=by
 have l:¬Rh ls:=by simp [Rh]
 rcases b with ⟨d,e,D,f,c⟩|⟨d,e,D,f,c⟩;exact .inl ⟨d,e,D,f,j.jm k c l,c.mono λx b=>⟨b.1,by have:=b.2;omega⟩⟩;exact .inr ⟨d,e,D,f,j.jm k c l,c.mono λx b=>⟨b.1,by have:=b.2;omega⟩⟩
theorem tY.pure {H:Hp} {w:Vl} (h:HR A J E H) (a:FR A J F) (b:dA fl A J):tY H H F F w i q 0 fl A J E (.tu [.ag (aw w),U i,B q]) J:=.inl ⟨zY _,rfl,A,h,a,.refl b⟩
theorem tY.feed {H:Hp} {a:Fe} {w:Vl} (d:HR A J E H) (g:dA fl A J) (f:FR A h a) (c:bQ fl (· =ls) A A J h):tY H H F a w i q 0 fl A J E (.tu [.ag (aw w),U i,B q]) h:=
 .inl ⟨zY _,rfl,A,d.jm g c λr b e=>by rw [e] at b;simp [Rh] at b,f,c.mono λr e=>by rw [e];simp [Be]⟩
def oY (n:Int):List Int:=if n=1\/n=2 then [0] else if n=3\/n=4 then [4] else if n=5 then [1,1] else if n=6\/n=8 then [1] else []
theorem PH (n:Int) (c:1<=n) (d:n<=8):EP prog 177 [I n] (· = .tu [.sl false ((oY n).map λk=>[U k]),B true]):=by have b:n=1\/n=2\/n=3\/n=4\/n=5\/n=6\/n=7\/n=8:=O;rcases b with rfl|rfl|rfl|rfl|rfl|rfl|rfl|rfl <;> (refine EP.o RM λJ Q a=>?_;simp [U2];exact a _ (by simp [oY]))
end
end T
end Go.Proofs.YtglilpjokhgidaaGreatDoor
