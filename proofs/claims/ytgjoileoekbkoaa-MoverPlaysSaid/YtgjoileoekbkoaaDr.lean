/-
  The regions that draw their order, function by function; written by gendr.py.
-/
import Derived.Test.YtgjoileoekbkoaaSXQ
namespace Go.Proofs.Ytgjoileoekbkoaa
open Go.SX

def dr3 : List (Nat × List Nat × DT) := [
  (19, [0, 0, 3, 7, 15, 0, 0, 96, 224, 480, 992, 2047, 0, 0, 12288, 28672, 65535, 131071], .eag 0 (.eag 1 (.eag 2 (.eag 3 (.eag 4 (.eag 5 (.eag 6 (.eag 7 (.eag 8 (.eag 9 (.eag 12 (.eag 13 (.eag 14 (.eag 15 (.alt 10 [0, 1, 2, 3, 4, 12, 13, 14, 15] (.eag 11 (.alt 16 [] (.eag 17 (.done)) (.stop))) (.stop)))))))))))))))),
  (23, [0, 1, 3, 0, 0, 24, 56, 120, 248, 511, 1023, 2047, 4095], .eag 0 (.eag 1 (.eag 2 (.eag 3 (.eag 4 (.eag 5 (.eag 6 (.eag 7 (.eag 8 (.alt 9 [] (.eag 10 (.eag 11 (.alt 12 [] (.done) (.stop)))) (.stop))))))))))),
  (32, [0, 0, 2, 6, 0, 16, 0, 64, 206, 510, 0, 2047, 4095, 8191, 8191, 0, 49151, 131071], .eag 0 (.eag 1 (.eag 2 (.eag 4 (.eag 5 (.eag 6 (.eag 7 (.eag 10 (.alt 3 [0, 4, 5, 6, 7, 10] (.alt 8 [0, 4, 5, 10] (.eag 9 (.alt 11 [] (.eag 12 (.eag 13 (.eag 14 (.alt 15 [0, 1, 2, 4, 5, 6, 7, 10, 9, 12, 13, 14] (.alt 16 [14] (.eag 17 (.done)) (.stop)) (.stop))))) (.alt 15 [0, 1, 2, 4, 5, 6, 7, 10, 9] (.alt 11 [] (.eag 12 (.eag 13 (.eag 14 (.alt 16 [14] (.eag 17 (.done)) (.stop))))) (.stop)) (.stop)))) (.alt 15 [0, 1, 2, 4, 5, 6, 7, 10] (.alt 8 [0, 4, 5, 10] (.eag 9 (.alt 11 [] (.eag 12 (.eag 13 (.eag 14 (.alt 16 [14] (.eag 17 (.done)) (.stop))))) (.stop))) (.stop)) (.stop))) (.alt 15 [0, 1, 2, 4, 5, 6, 7, 10] (.alt 3 [0, 4, 5, 6, 7, 10] (.alt 8 [0, 4, 5, 10] (.eag 9 (.alt 11 [] (.eag 12 (.eag 13 (.eag 14 (.alt 16 [14] (.eag 17 (.done)) (.stop))))) (.stop))) (.stop)) (.stop)) (.stop))))))))))),
  (37, [0, 1, 0, 7, 15, 31, 63, 127, 63, 319, 831, 1855, 4095, 8191], .eag 0 (.eag 2 (.alt 1 [2] (.alt 3 [] (.eag 4 (.eag 5 (.eag 6 (.eag 8 (.eag 9 (.eag 10 (.eag 11 (.alt 7 [8, 9, 10, 11] (.eag 12 (.eag 13 (.done))) (.stop))))))))) (.stop)) (.stop))))]
def dr7 : List (Nat × List Nat × DT) := [
  (14, [0, 1, 0, 4, 12, 28, 0, 64, 192, 448, 0, 2044, 4095, 8191, 16383], .eag 0 (.eag 1 (.eag 2 (.eag 3 (.eag 4 (.eag 5 (.eag 6 (.eag 7 (.eag 8 (.eag 9 (.eag 10 (.eag 11 (.alt 12 [] (.eag 13 (.alt 14 [] (.done) (.stop))) (.stop))))))))))))))]
def dr14 : List (Nat × List Nat × DT) := [
  (10, [0, 0, 2, 6, 14, 0, 32, 126, 255, 511, 1023], .eag 0 (.eag 1 (.eag 2 (.eag 3 (.eag 4 (.eag 5 (.eag 6 (.alt 7 [0] (.eag 8 (.eag 9 (.alt 10 [] (.done) (.stop)))) (.stop))))))))),
  (13, [0, 1, 3, 7, 0, 16, 48, 112, 240, 511], .eag 0 (.eag 1 (.eag 2 (.eag 3 (.eag 4 (.eag 5 (.eag 6 (.eag 7 (.eag 8 (.eag 9 (.done))))))))))),
  (18, [0, 1, 3, 7, 15, 31, 63, 127, 255, 511, 1023, 2047, 4095, 8191, 16383, 32767, 65535, 32767, 163839, 425983, 950271, 2097151, 4194303, 8388607], .eag 0 (.eag 1 (.eag 2 (.eag 3 (.eag 4 (.eag 5 (.eag 6 (.eag 7 (.eag 8 (.eag 9 (.eag 10 (.eag 11 (.eag 12 (.eag 13 (.eag 14 (.eag 15 (.eag 16 (.eag 17 (.eag 18 (.eag 19 (.eag 20 (.eag 21 (.eag 22 (.eag 23 (.done))))))))))))))))))))))))),
  (22, [0, 0, 2, 6, 14, 0, 32, 96, 254, 511, 1023, 2047], .eag 0 (.eag 1 (.eag 2 (.eag 3 (.eag 4 (.eag 5 (.eag 6 (.eag 7 (.eag 8 (.eag 9 (.eag 10 (.alt 11 [] (.done) (.stop))))))))))))),
  (23, [0, 1, 3, 7, 0, 16, 48, 112, 240, 511], .eag 0 (.eag 1 (.eag 2 (.eag 3 (.eag 4 (.eag 5 (.eag 6 (.eag 7 (.eag 8 (.eag 9 (.done)))))))))))]
def dr18 : List (Nat × List Nat × DT) := [
  (8, [0, 0, 0, 4, 12, 0, 32, 127, 255, 511, 511, 0, 3071, 8191], .eag 0 (.eag 1 (.eag 2 (.eag 3 (.eag 4 (.alt 5 [0, 1, 2, 3, 4] (.eag 6 (.alt 7 [] (.eag 8 (.eag 9 (.eag 10 (.alt 11 [0, 1, 2, 3, 4, 6, 8, 9, 10] (.alt 12 [10] (.eag 13 (.done)) (.stop)) (.stop))))) (.alt 11 [0, 1, 2, 3, 4, 6] (.alt 7 [] (.eag 8 (.eag 9 (.eag 10 (.alt 12 [10] (.eag 13 (.done)) (.stop))))) (.stop)) (.stop)))) (.alt 11 [0, 1, 2, 3, 4] (.alt 5 [0, 1, 2, 3, 4] (.eag 6 (.alt 7 [] (.eag 8 (.eag 9 (.eag 10 (.alt 12 [10] (.eag 13 (.done)) (.stop))))) (.stop))) (.stop)) (.stop)))))))),
  (13, [0, 0, 0, 4, 12, 0, 63], .eag 0 (.eag 1 (.eag 2 (.eag 3 (.eag 4 (.eag 5 (.alt 6 [] (.done) (.stop))))))))]
def dr20 : List (Nat × List Nat × DT) := [
  (1, [0, 1, 3, 7, 0, 16, 63, 127, 255, 511, 1023, 2047], .eag 0 (.eag 1 (.eag 2 (.eag 3 (.eag 4 (.eag 5 (.eag 6 (.eag 7 (.eag 8 (.eag 9 (.eag 10 (.eag 11 (.done)))))))))))))]
def dr22 : List (Nat × List Nat × DT) := [
  (1, [0, 1, 3, 7, 0, 16, 63, 127, 255, 511, 1023, 2047], .eag 0 (.eag 1 (.eag 2 (.eag 3 (.eag 4 (.eag 5 (.eag 6 (.eag 7 (.eag 8 (.eag 9 (.eag 10 (.eag 11 (.done)))))))))))))]
def dr23 : List (Nat × List Nat × DT) := [
  (7, [0, 1, 3, 7, 0, 16, 48, 112, 240, 511], .eag 0 (.eag 1 (.eag 2 (.eag 3 (.eag 4 (.eag 5 (.eag 6 (.eag 7 (.eag 8 (.eag 9 (.done))))))))))),
  (11, [0, 1, 3, 7, 15, 31, 63, 127, 255, 511, 1023, 2047, 4095, 2047, 10239, 26623, 59391, 131071, 262143], .eag 0 (.eag 1 (.eag 2 (.eag 3 (.eag 4 (.eag 5 (.eag 6 (.eag 7 (.eag 8 (.eag 9 (.eag 10 (.eag 11 (.eag 12 (.eag 13 (.eag 14 (.eag 15 (.eag 16 (.eag 17 (.eag 18 (.done)))))))))))))))))))),
  (15, [0, 0, 2, 6, 14, 0, 32, 96, 254, 0, 512, 1536, 3584, 7680, 16382, 32767, 65535, 131071], .eag 0 (.eag 1 (.eag 2 (.eag 3 (.eag 4 (.eag 5 (.eag 6 (.eag 7 (.eag 8 (.eag 9 (.eag 10 (.eag 11 (.eag 12 (.eag 13 (.eag 14 (.eag 15 (.eag 16 (.alt 17 [] (.done) (.stop)))))))))))))))))))]
def dr26 : List (Nat × List Nat × DT) := [
  (6, [0, 1, 3, 7, 15, 0, 32, 96, 224, 480, 1023, 2047], .eag 0 (.eag 1 (.eag 2 (.eag 3 (.eag 4 (.eag 5 (.eag 6 (.eag 7 (.eag 8 (.eag 9 (.eag 10 (.eag 11 (.done))))))))))))),
  (7, [0, 1, 0, 4, 12, 28, 3, 67, 195, 451, 963, 2047, 4095, 8191], .eag 0 (.eag 1 (.eag 2 (.eag 3 (.eag 4 (.eag 5 (.eag 6 (.alt 7 [2, 3, 4, 5] (.eag 8 (.eag 9 (.alt 10 [2, 3, 4, 5] (.eag 11 (.eag 12 (.alt 13 [] (.done) (.stop)))) (.stop)))) (.stop))))))))),
  (8, [0, 1, 3, 7, 0, 16, 48, 112, 0, 511, 1023, 0, 0, 4096, 12288, 28672, 61440, 129024, 2047, 264191, 788479, 2097151, 4194303, 8388607], .eag 0 (.eag 1 (.eag 2 (.eag 3 (.eag 4 (.eag 5 (.eag 6 (.eag 7 (.eag 8 (.eag 9 (.eag 11 (.eag 12 (.eag 13 (.eag 14 (.eag 15 (.eag 16 (.eag 17 (.alt 10 [11, 12, 13, 14, 15, 16, 17] (.eag 18 (.eag 19 (.alt 20 [11, 12, 13, 14, 15, 16, 17] (.eag 21 (.eag 22 (.alt 23 [] (.done) (.stop)))) (.stop)))) (.stop)))))))))))))))))))]
end Go.Proofs.Ytgjoileoekbkoaa
